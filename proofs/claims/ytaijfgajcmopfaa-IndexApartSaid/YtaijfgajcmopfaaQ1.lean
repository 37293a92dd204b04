import Derived.Test.YtaijfgajcmopfaaQ0
import Derived.Deep.LoopGhost
import Derived.WalkMore
import Derived.IntWalk
import Derived.OrdersHeld
import Derived.StillTail
import Derived.Deep.RegionHeld3
import Derived.Deep.AppendLies
import Derived.Maps.AppendAt
import Derived.Laws.OwnMore
import Derived.Test.YtaijfgajcmopfaaRows
import Derived.ReadAgain
import Derived.ProofKit
import Derived.OpenShut
import Derived.Deep.DeepHandedRow
import Derived.Deep.Slices
/- Texts of one proof, one behind the other: X3 X4 X5 Lp X6 Pl Y1 Y2 Y3 Y4 Y5 Pop Y6 Y7 Ap Y8 Y9 X7 X8 Lw. -/
/- New. -/
set_option linter.unusedVariables false
namespace Go.Proofs.Ytaijfgajcmopfaa.X3
open Go.RowKit Go.Shelf V Rh T W1 W2 W3 W4 W6 Rf X1 X2

theorem info70 : (Try.prog.info? 70).map (fun i => (i.zero, i.size, i.bytes)) = some (some (.pointer none), 1, 8) := by kernel_rfl

/-- an index half made: its head at 'bx', the row in 'v' -/
structure Making (w wr : World) (bx : Nat) (v : Value) (bts bss : List Nat) (most k : Nat) (Ls : List (List Ent)) : Prop where
  head : Blk wr bx [v] 58
  row : wr.ownsRow (bx + 1) 70 1 v k (bts.map ptr)
  len1 : bts.length = k
  len2 : bss.length = k
  tabs : ∀ i, i < k → Is wr (bts.getD i 0) (bss.getD i 0) most (Ls.getD i [])
  apart : (bts ++ bss).Nodup
  off : ∀ j, j ∈ bts ++ bss → v.ownBlock ≠ some j ∧ bx < j
  keep : Keep No w wr
  new : w.heap.size ≤ bx

theorem Making.lt {w wr : World} {bx : Nat} {v : Value} {bts bss : List Nat} {most k : Nat} {Ls : List (List Ent)} (h : Making w wr bx v bts bss most k Ls) : ∀ j, j ∈ bts ++ bss → j < wr.heap.size := by
  intro j hj
  rcases List.mem_append.1 hj with hj | hj
  · obtain ⟨i, hi, rfl⟩ := List.getElem_of_mem hj
    have := (is_lt (h.tabs i (by rw [← h.len1]; exact hi))).1
    simpa [hi] using this
  · obtain ⟨i, hi, rfl⟩ := List.getElem_of_mem hj
    have := (is_lt (h.tabs i (by rw [← h.len2]; exact hi))).2
    simpa [hi] using this

/-- one table more -/
theorem Making.push {w wr wm wn : World} {bx : Nat} {v v' : Value} {bts bss : List Nat} {most k bt bs : Nat} {Ls : List (List Ent)} (h : Making w wr bx v bts bss most k Ls) (hm : Keep No wr wm) (h1 : wr.heap.size ≤ bt) (h2 : wr.heap.size ≤ bs)
    (hne : bt ≠ bs) (hi : Is wm bt bs most (Ls.getD k [])) (hg : wm.grownBy wn v.ownBlock) (ho : wn.ownsRow (bx + 1) 70 1 v' (k + 1) (bts.map ptr ++ [ptr bt])) (hv : v'.ownBlock = v.ownBlock ∨ ∃ q, v'.ownBlock = some q ∧ wm.heap.size ≤ q) :
    Making w (wn.setCell ⟨bx, 0, none⟩ v') bx v' (bts ++ [bt]) (bss ++ [bs]) most (k + 1) Ls := by
  have hlt := h.lt
  have hbx : bx < wr.heap.size := h.head.lt
  have hbx2 : bx < wm.heap.size := Nat.lt_of_lt_of_le hbx hm.size
  have hrow := h.row.lt
  obtain ⟨hi1, hi2⟩ := is_lt hi
  have hold : v.ownBlock ≠ some bt ∧ v.ownBlock ≠ some bs := ⟨fun e => by have := hrow _ e; omega, fun e => by have := hrow _ e; omega⟩
  have hoffv : ∀ j, j ∈ (bts ++ [bt]) ++ (bss ++ [bs]) → v.ownBlock ≠ some j ∧ bx < j ∧ j < wm.heap.size := by
    intro j hj
    simp only [List.mem_append, List.mem_singleton] at hj
    have hs := hm.size
    rcases hj with (hj | rfl) | (hj | rfl)
    · exact ⟨(h.off j (List.mem_append_left _ hj)).1, (h.off j (List.mem_append_left _ hj)).2, Nat.lt_of_lt_of_le (hlt j (List.mem_append_left _ hj)) hs⟩
    · exact ⟨hold.1, by omega, hi1⟩
    · exact ⟨(h.off j (List.mem_append_right _ hj)).1, (h.off j (List.mem_append_right _ hj)).2, Nat.lt_of_lt_of_le (hlt j (List.mem_append_right _ hj)) hs⟩
    · exact ⟨hold.2, by omega, hi2⟩
  have hk0 : Keep (fun j => v.ownBlock = some j) wm wn := (Keep.refl _ wm).grown hg (fun k e _ => e)
  have hk1 : Keep (fun j => v.ownBlock = some j ∨ j = bx) wm (wn.setCell ⟨bx, 0, none⟩ v') := (hk0.mono (fun _ _ e => .inl e)).setCell _ _ (fun _ => .inr rfl)
  have hnot : ∀ j, j ∈ (bts ++ [bt]) ++ (bss ++ [bs]) → ¬ (v.ownBlock = some j ∨ j = bx) := fun j hj e => by
    have := hoffv j hj
    rcases e with e | e
    · exact this.1 e
    · omega
  have hvbx : v.ownBlock ≠ some bx := fun e => by have := (hrow _ e).1; omega
  refine ⟨?_, ?_, by simp [h.len1], by simp [h.len2], ?_, ?_, ?_, ?_, h.new⟩
  · exact ((h.head.mod hm (no _)).mod hk0 hvbx).set 0 v'
  · have hkk : Keep (fun j => j = bx) wn (wn.setCell ⟨bx, 0, none⟩ v') := (Keep.refl _ _).setCell _ _ (fun _ => rfl)
    rw [List.map_append]
    refine own_keep ho hkk (fun g hg' e => ?_)
    have := (ho.lt g hg').1
    omega
  · intro i hi'
    by_cases hik : i = k
    · subst hik
      have e1 : (bts ++ [bt]).getD i 0 = bt := by simp [← h.len1]
      have e2 : (bss ++ [bs]).getD i 0 = bs := by simp [← h.len2]
      rw [e1, e2]
      exact is_keep hi hk1 (hnot _ (by simp)) (hnot _ (by simp))
    · have hik' : i < k := by omega
      have l1 : i < bts.length := by rw [h.len1]; exact hik'
      have l2 : i < bss.length := by rw [h.len2]; exact hik'
      have e1 : (bts ++ [bt]).getD i 0 = bts.getD i 0 := by simp [List.getD_eq_getElem?_getD, List.getElem?_append_left l1]
      have e2 : (bss ++ [bs]).getD i 0 = bss.getD i 0 := by simp [List.getD_eq_getElem?_getD, List.getElem?_append_left l2]
      rw [e1, e2]
      exact is_keep (is_keep (h.tabs i hik') hm (no _) (no _)) hk1 (hnot _ (by simp only [List.mem_append]; exact .inl (.inl (getD_mem l1)))) (hnot _ (by simp only [List.mem_append]; exact .inr (.inl (getD_mem l2))))
  · have ha := h.apart
    simp only [List.nodup_append, List.nodup_cons, List.mem_append, List.mem_singleton, List.not_mem_nil, not_false_eq_true, List.nodup_nil, and_true, true_and] at ha ⊢
    obtain ⟨a1, a2, a3⟩ := ha
    have b1 : ∀ j, j ∈ bts ∨ j ∈ bss → j ≠ bt ∧ j ≠ bs := fun j hj => by
      have := hlt j (List.mem_append.2 hj)
      omega
    refine ⟨⟨a1, fun a ha b hb => ?_⟩, ⟨a2, fun a ha b hb => ?_⟩, ?_⟩
    · rw [hb]; exact (b1 a (.inl ha)).1
    · rw [hb]; exact (b1 a (.inr ha)).2
    · rintro a (ha | rfl) b (hb | rfl)
      · exact a3 a ha b hb
      · exact (b1 a (.inl ha)).2
      · exact fun e => (b1 b (.inr hb)).1 e.symm
      · exact hne
  · intro j hj
    have := hoffv j hj
    refine ⟨fun e => ?_, this.2.1⟩
    rcases hv with hv | ⟨q, hq, hq2⟩
    · rw [hv] at e; exact this.1 e
    · rw [hq] at e
      have : q = j := by simpa using e
      omega
  · refine h.keep.trans ((hm.mono (S' := fun j => v.ownBlock = some j ∨ j = bx) (fun _ _ e => e.elim)).trans hk1 (fun _ _ e => e)) (fun i hi' e => ?_)
    rcases e with e | rfl
    · have := (hrow _ e).1; have := h.new; omega
    · have := h.new; omega

theorem Making.idx {w wr : World} {bx : Nat} {v : Value} {bts bss : List Nat} {most k : Nat} {Ls : List (List Ent)} (h : Making w wr bx v bts bss most k Ls) (hk : k = Ls.length) (h1 : 1 ≤ k) (h64 : k ≤ 64) (hv : v ≠ .slice none 0 0) :
    ∃ bl, Idx wr bx bl bts bss most Ls ∧ ∀ j, Foot bx bl bts bss j → w.heap.size ≤ j := by
  obtain ⟨g, cap, rest, rfl, hb, hn, hc, hB, hL⟩ := own_blk h.row hv
  have hnew := h.new
  refine ⟨g, ⟨⟨cap, by rw [← hk]; exact h.head⟩, ⟨rest, hB⟩, by rw [h.len1, hk], by rw [h.len2, hk], by omega, by omega, fun i hi => h.tabs i (by omega), ?_⟩, ?_⟩
  · refine List.nodup_cons.2 ⟨?_, List.nodup_cons.2 ⟨fun hm => ?_, h.apart⟩⟩
    · intro hm
      rcases List.mem_cons.1 hm with e | hm
      · omega
      · have := (h.off _ hm).2; omega
    · exact (h.off _ hm).1 rfl
  · intro j hj
    unfold Foot at hj
    rcases List.mem_cons.1 hj with rfl | hj
    · exact hnew
    · rcases List.mem_cons.1 hj with rfl | hj
      · omega
      · have := (h.off _ hj).2; omega

set_option maxHeartbeats 400000 in
theorem new_arg (n bits most : Int) (w : World) (h : n < 1 ∨ 64 < n) :
    Calls Try.prog 30 #[.int .i64 n, .int .i64 bits, .int .i64 most] w fun e w' => e = .returned (.tuple #[.pointer none, .int .i64 1]) ∧ w = w' := by
  have h' : decide (n < 1) = true ∨ decide (n < 1) = false ∧ decide (64 < n) = true := by simp; omega
  clear h
  rcases h' with h | ⟨h, h2⟩
  all_goals
    go_enter Try.func30, Try.ntmps30
    go_wp2
    go_ret2
    exact ⟨rfl, rfl⟩

set_option maxHeartbeats 400000 in
theorem new_bits (n bits most : Int) (w : World) (h1 : 1 ≤ n) (h2 : n ≤ 64) (h : badB bits most) :
    Calls Try.prog 30 #[.int .i64 n, .int .i64 bits, .int .i64 most] w fun e w' => e = .returned (.tuple #[.pointer none, .int .i64 110]) ∧ Keep No w w' := by
  have g1 : decide (n < 1) = false := by simp; omega
  have g2 : decide (64 < n) = false := by simp; omega
  have g3 : decide (0 < n) = true := by simp; omega
  have hb : ∀ W, _ := fun W => new_bad bits most W h
  clear h
  go_enter Try.func30, Try.ntmps30
  go_wp2
  refine wp_loop_rounds 1 ?_
  rw [rounds_succ]
  go_wp2_with (go_at_call 58; refine (hb _).mono ?_; rintro e w' ⟨rfl, rfl⟩)
  go_ret2
  exact ⟨rfl, (Keep.refl _ _).alloc _⟩

theorem is_new {w : World} {bt bs bits most : Nat} (h : Tab w bt bs bits most (List.replicate (2 ^ bits) z) 0) (hb : 2 ≤ bits) (hm : bits ≤ most) (h16 : most ≤ 16) : Is w bt bs most [] := ⟨bits, _, h, tinv_new hb hm h16⟩

set_option maxRecDepth 100000 in
set_option maxHeartbeats 1000000 in
theorem new_any (n bits most : Nat) (w : World) (h1 : 1 ≤ n) (h2 : n ≤ 64) (hb : 2 ≤ bits) (hm : bits ≤ most) (h16 : most ≤ 16) :
    Calls Try.prog 30 #[.int .i64 n, .int .i64 bits, .int .i64 most] w fun e w' => ∃ bx, e = .returned (.tuple #[ptr bx, .int .i64 0]) ∧ ∃ bl bts bss, Idx w' bx bl bts bss most (List.replicate n []) ∧ (∀ j, Foot bx bl bts bss j → w.heap.size ≤ j) ∧ Keep No w w' := by
  have g1 : decide ((n : Int) < 1) = false := by simp; omega
  have g2 : decide ((64 : Int) < n) = false := by simp; omega
  have hnew : ∀ W, _ := fun W => W4.new_any bits most W hb hm h16
  have HIN : Hid (∀ (w : World) (bt bs : Nat), Tab w bt bs bits most (List.replicate (2 ^ bits) z) 0 → Is w bt bs most []) := fun w bt bs h => is_new h hb hm h16
  have H1 := hid h1
  have H2 := hid h2
  clear h1 h2 hb hm h16
  have hmk : Making w (w.alloc (.cells #[.slice none 0 0] 58)) w.heap.size (.slice none 0 0) [] [] most 0 (List.replicate n []) :=
    ⟨Blk.new' _ rfl, World.ownsRow_nil _ _ _ _, rfl, rfl, fun i hi => absurd hi (by omega), List.nodup_nil, fun j hj => by simp at hj, (Keep.refl _ _).alloc _, Nat.le_refl _⟩
  have HMK := hid hmk
  clear hmk
  obtain ⟨i0, hi, hz0, hz1, hz2⟩ := info_parts info70
  go_enter Try.func30, Try.ntmps30
  go_wp2
  go_loopw [20] (fun i wr => ∃ (k : Nat) (v : Value) (bts bss : List Nat), i = .int .i64 k ∧ k ≤ n ∧ Hid (Making w wr w.heap.size v bts bss most k (List.replicate n []) ∧ (k = 0 ∨ v ≠ .slice none 0 0))) (fun i wr => n - (intOf i).toNat)
  case atStart => exact ⟨0, _, [], [], rfl, Nat.zero_le _, HMK.out, .inl rfl⟩
  case round =>
    obtain ⟨k, v, bts, bss, rfl, hkn, HM⟩ := hrel
    obtain ⟨z0, c0, f0⟩ := HM.out.1.head.one
    by_cases hk : k < n
    · have hk' : (k : Int) < n := by omega
      go_wp2_with (first | (go_at_call 58; refine (hnew _).mono ?_; rintro e w1 ⟨bt, bs, rfl, hbt, hbs, hT, hk1⟩; have HK := hid hk1; have HT := hid hT; have HBT := hid hbt; have HBS := hid hbs; obtain ⟨z1, c1, f1⟩ := (HM.out.1.head.mod hk1 (no _)).one; clear hk1 hT hbt hbs) | (at_builtin; refine wpList_append_own_at _ rfl (.tmp 35) (.tmp 37) 56 rfl (w.heap.size + 1) 70 i0 (.pointer none) 1 8 Try.underlying56 hi hz0 hz1 hz2 rfl (by decide) v k (bts.map ptr) rfl ((own_keep HM.out.1.row HK.out (fun _ _ => no _)).alloc (.cells #[ptr bt] 70)) ⟨w1.heap.size, 0, none⟩ 1 1 [ptr bt] rfl rfl ?c0 ?c1 ?c2 ?c3 ?c4 ?c5))
      case c0 => intro j u hu; rw [add_at, Nat.zero_add]; exact ((Blk.new' (cl := [ptr bt]) 70 rfl : Blk (w1.alloc _) w1.heap.size _ _).cell j).trans hu
      case c1 => intro u hu; simp only [List.mem_singleton] at hu; subst hu; rfl
      case c2 => have := H2.out; unfold maxLen; omega
      case c3 => have := H2.out; omega
      case c4 => simp; omega
      case c5 =>
        intro v' w2 h1 h2 h3 h4
        have hkg : Keep (fun j => v.ownBlock = some j) (w1.alloc (.cells #[ptr bt] 70)) w2 := (Keep.refl _ _).grown h2 (fun k e _ => e)
        have hbx : v.ownBlock ≠ some w.heap.size := fun e => by have := (HM.out.1.row.lt _ e).1; omega
        obtain ⟨z2, c2, f2⟩ := ((((HM.out.1.head.mod HK.out (no _)).alloc (.cells #[ptr bt] 70)).mod hkg hbx)).one
        have hT2 := HIN.out _ _ _ (HT.out.alloc (.cells #[ptr bt] 70))
        have hne : bt ≠ bs := HT.out.ne
        have hfin := hid (HM.out.1.push (HK.out.alloc (.cells #[ptr bt] 70)) HBT.out HBS.out hne (by simpa [hk] using hT2) h2 h1 (by rcases h4 with h4 | h4; exact .inl h4; exact .inr ⟨_, h4, by simp⟩))
        obtain ⟨g, cap, rest, rfl, _⟩ := own_blk h1 h3
        clear h1 h2 h3 h4 hkg hT2
        go_wp2
        refine ⟨⟨k + 1, _, _, _, ?_, by omega, hfin.out, .inr (fun e => ?_)⟩, by simp [intOf]; omega⟩
        · go_num
        · cases e
    · have hk' : ¬ ((k : Int) < n) := by omega
      go_wp2
      go_ret2
      obtain ⟨hm, hv⟩ := HM.out
      obtain rfl : k = n := by omega
      obtain ⟨bl, hX, hF⟩ := hm.idx (by simp) H1.out H2.out (hv.resolve_left (by have := H1.out; omega))
      exact ⟨_, rfl, bl, bts, bss, hX, hF, hm.keep⟩
end Go.Proofs.Ytaijfgajcmopfaa.X3
/- The calls of an index that stands for lists of entries. -/
set_option linter.unusedVariables false
namespace Go.Proofs.Ytaijfgajcmopfaa.X4
open Go.RowKit Go.Shelf V Rh T W1 W2 W3 W4 W6 W7 Rf X1 X2 X3

/-- the index at p stands for the lists Ls; its blocks are F -/
def Has (w : World) (p : Value) (most : Nat) (Ls : List (List Ent)) (F : Nat → Prop) : Prop := ∃ bx bl bts bss, p = ptr bx ∧ Idx w bx bl bts bss most Ls ∧ F = Foot bx bl bts bss
/-- .. behind a call -/
def Then (w w' : World) (p : Value) (most : Nat) (Ls : List (List Ent)) (F : Nat → Prop) : Prop := Keep F w w' ∧ ∃ F', Has w' p most Ls F' ∧ ∀ k, F' k → F k ∨ w.heap.size ≤ k

theorem Has.lt {w : World} {p : Value} {most : Nat} {Ls : List (List Ent)} {F : Nat → Prop} (h : Has w p most Ls F) : ∀ k, F k → k < w.heap.size := by
  obtain ⟨bx, bl, bts, bss, _, hX, rfl⟩ := h
  exact hX.foot_lt
theorem Has.keep {w w' : World} {p : Value} {most : Nat} {Ls : List (List Ent)} {F S : Nat → Prop} (h : Has w p most Ls F) (m : Keep S w w') (hS : ∀ k, F k → ¬ S k) : Has w' p most Ls F := by
  obtain ⟨bx, bl, bts, bss, h1, hX, rfl⟩ := h
  exact ⟨bx, bl, bts, bss, h1, hX.keep m hS, rfl⟩
theorem Has.notMark {w : World} {p : Value} {most : Nat} {Ls : List (List Ent)} {F : Nat → Prop} (h : Has w p most Ls F) : ∀ k, F k → ∃ cs t, Blk w k cs t := by
  obtain ⟨bx, bl, bts, bss, h1, hX, rfl⟩ := h
  intro k hk
  simp only [Foot, List.mem_cons, List.mem_append] at hk
  rcases hk with rfl | rfl | hk | hk
  · obtain ⟨_, hb⟩ := hX.head; exact ⟨_, _, hb⟩
  · obtain ⟨_, hb⟩ := hX.row; exact ⟨_, _, hb⟩
  · obtain ⟨i, hi, rfl⟩ := List.getElem_of_mem hk
    obtain ⟨_, _, hT, _⟩ := hX.tabs i (by rw [← hX.len1]; exact hi)
    obtain ⟨C, _, _, hb⟩ := hT.head
    exact ⟨_, _, by simpa [hi] using hb⟩
  · obtain ⟨i, hi, rfl⟩ := List.getElem_of_mem hk
    obtain ⟨_, _, hT, _⟩ := hX.tabs i (by rw [← hX.len2]; exact hi)
    obtain ⟨xs, hb⟩ := hT.slots
    exact ⟨_, _, by simpa [hi] using hb⟩
theorem Has.stays {w w' : World} {p : Value} {most : Nat} {Ls : List (List Ent)} {F : Nat → Prop} (h : Has w p most Ls F) (m : Keep No w w') : Then w w' p most Ls F :=
  ⟨m.mono (fun _ _ e => e.elim), F, h.keep m (fun _ _ => no _), fun _ hk => .inl hk⟩

def sOf (h : Int) (Ls : List (List Ent)) : List Ent := Ls.getD (stripeI Ls.length h) []
def xset (h : Int) (L : List Ent) (Ls : List (List Ent)) : List (List Ent) := Ls.set (stripeI Ls.length h) L
def xget (h : Int) (Ls : List (List Ent)) : Option Ent := lget h (sOf h Ls)
def xrem (h : Int) (Ls : List (List Ent)) : List (List Ent) := xset h (lrem h (sOf h Ls)) Ls
def xhit (h : Int) (Ls : List (List Ent)) : List (List Ent) := xset h (hitL h (sOf h Ls)) Ls
def xput (most : Nat) (e : Ent) (Ls : List (List Ent)) : Option Ent × Int × List (List Ent) :=
  if e.a = 0 then (none, 1, Ls) else if ∃ o, xget e.h Ls = some o ∧ e.v < o.v then (none, 120, Ls) else
    ((putR most e (sOf e.h Ls)).1, (putR most e (sOf e.h Ls)).2.1, xset e.h (putR most e (sOf e.h Ls)).2.2 Ls)
def xremIf (h a : Int) (Ls : List (List Ent)) : Bool × List (List Ent) := match xget h Ls with
  | some e => if e.a = a then (true, xrem h Ls) else (false, Ls)
  | none => (false, Ls)
def xmove (most : Nat) (h fr to : Int) (Ls : List (List Ent)) : Bool × List (List Ent) := match xget h Ls with
  | some e => if e.a = fr ∧ to ≠ 0 then (true, xset h (putR most { e with a := to } (sOf h Ls)).2.2 Ls) else (false, Ls)
  | none => (false, Ls)

theorem hitE_h (e : Ent) : (hitE e).h = e.h := by unfold hitE; split <;> rfl
theorem hit_length {L : List Ent} (hs : Sorted L) (h : Int) : (hitL h L).length = L.length := by
  unfold hitL
  cases hg : lget h L with
  | none => rfl
  | some e =>
    have := lget_some hg
    exact lput_length_some (o := e) hs (by rw [hitE_h, this.2]; exact hg)

theorem opt_val (o : Option Ent) : optE o = valE (o.getD z) := by cases o <;> rfl

section
variable {w : World} {bx bl most : Nat} {bts bss : List Nat} {Ls : List (List Ent)}

/-- what a table's call does to the whole -/
theorem idx_around (hX : Idx w bx bl bts bss most Ls) {i : Nat} (hi : i < Ls.length) {L' : List Ent} {w' : World}
    (h : Around w (fun A B => Keep (W2.At (bts.getD i 0) (bss.getD i 0)) A B ∧ ∃ bs', (bs' = bss.getD i 0 ∨ A.heap.size ≤ bs') ∧ Is B (bts.getD i 0) bs' most L') w') : Then w w' (ptr bx) most (Ls.set i L') (Foot bx bl bts bss) := by
  obtain ⟨A, B, hA, ⟨hAB, bs', hbs, hL⟩, hs, hB⟩ := h
  have hXA := hX.keep hA (fun _ _ => no _)
  obtain ⟨hXB, hK, hF⟩ := hXA.put hi hAB hbs hL
  have hlt := hX.foot_lt
  have hoff : ∀ k, Foot bx bl bts (bss.set i bs') k → ¬ (w.heap.size ≤ k ∧ k < A.heap.size) := fun k hk e => by
    rcases hF k hk with h | h
    · have := hlt k h; omega
    · omega
  refine ⟨((hA.mono (S' := Foot bx bl bts bss) (fun _ _ e => e.elim)).trans hK (fun _ _ e => e)).trans hB (fun k hk e => by omega), _, ⟨bx, bl, bts, _, rfl, hXB.keep hB hoff, rfl⟩, ?_⟩
  intro k hk
  rcases hF k hk with h | h
  · exact .inl h
  · exact .inr (Nat.le_trans hA.size h)

theorem idx_at (hX : Idx w bx bl bts bss most Ls) {h : Int} (hh : 0 ≤ h) (hh2 : h < 18446744073709551616) : ∀ W, Keep No w W → Calls Try.prog 44 #[ptr bx, .int .u64 h] W fun e w' => e = .returned (.pointer (some ⟨bts.getD (stripeI Ls.length h) 0, 0, none⟩)) ∧ ∃ n, W.drewN n = w' :=
  fun W hW => at_any bx bl most bts bss Ls h W (hX.keep hW (fun _ _ => no _)) hh hh2

theorem idx_get (hX : Idx w bx bl bts bss most Ls) {h : Int} (hh : 0 ≤ h) (hh2 : h < 18446744073709551616) : ∀ W, Keep No w W → Calls Try.prog 45 #[.pointer (some ⟨bts.getD (stripeI Ls.length h) 0, 0, none⟩), .int .u64 h] W fun e w' => e = .returned (.tuple #[valE ((xget h Ls).getD z), .bool (xget h Ls).isSome]) ∧ Keep No W w' := by
  intro W hW
  obtain ⟨bits, es, hT, hI⟩ := (hX.keep hW (fun _ _ => no _)).tabs _ (stripeI_lt hX.pos h)
  rw [← opt_val]
  exact get_any _ _ bits most _ es _ h W hT hI hh hh2

theorem at_low (hX : Idx w bx bl bts bss most Ls) (h : Int) : ∀ A B, Keep (W2.At (bts.getD (stripeI Ls.length h) 0) (bss.getD (stripeI Ls.length h) 0)) A B → Keep (fun k => k < w.heap.size) A B := fun A B hK => hK.mono (fun k _ e => by
    have := is_lt (hX.tabs _ (stripeI_lt hX.pos h))
    rcases e with rfl | rfl
    · exact this.1
    · exact this.2)
end

section
variable {w : World} {p : Value} {most : Nat} {Ls : List (List Ent)} {F : Nat → Prop}

theorem get_has (hH : Has w p most Ls F) (h : Int) (hh : 0 ≤ h) (hh2 : h < 18446744073709551616) :
    Calls Try.prog 26 #[p, .int .u64 h] w fun e w' => e = .returned (.tuple #[valE ((xget h Ls).getD z), .bool (xget h Ls).isSome]) ∧ Keep No w w' := by
  obtain ⟨bx, bl, bts, bss, rfl, hX, rfl⟩ := hH
  exact get_walk _ _ h _ _ w (idx_at hX hh hh2) (idx_get hX hh hh2)

theorem remove_has (hH : Has w p most Ls F) (h : Int) (hh : 0 ≤ h) (hh2 : h < 18446744073709551616) :
    Calls Try.prog 22 #[p, .int .u64 h] w fun e w' => e = .returned (.tuple #[valE ((xget h Ls).getD z), .bool (xget h Ls).isSome]) ∧ Then w w' p most (xrem h Ls) F := by
  obtain ⟨bx, bl, bts, bss, rfl, hX, rfl⟩ := hH
  refine (remove_walk _ _ h _ _ w _ (idx_at hX hh hh2) ?_).mono (fun e w' hw => ⟨hw.1, idx_around hX (stripeI_lt hX.pos h) hw.2⟩)
  intro W hW
  obtain ⟨bits, es, hT, hI⟩ := (hX.keep hW (fun _ _ => no _)).tabs _ (stripeI_lt hX.pos h)
  rw [← opt_val]
  exact (remove_any _ _ bits most es _ h W hT hI hh hh2).mono (fun e w' hw => ⟨hw.1, at_low hX h _ _ hw.2.1, hw.2.1, _, .inl rfl, hw.2.2⟩)

theorem hit_has (hH : Has w p most Ls F) (h : Int) (hh : 0 ≤ h) (hh2 : h < 18446744073709551616) :
    Calls Try.prog 25 #[p, .int .u64 h] w fun e w' => e = .returned (.bool (xget h Ls).isSome) ∧ Then w w' p most (xhit h Ls) F := by
  obtain ⟨bx, bl, bts, bss, rfl, hX, rfl⟩ := hH
  refine (hit_walk _ _ h _ w _ (idx_at hX hh hh2) ?_).mono (fun e w' hw => ⟨hw.1, idx_around hX (stripeI_lt hX.pos h) hw.2⟩)
  intro W hW
  obtain ⟨bits, es, hT, hI⟩ := (hX.keep hW (fun _ _ => no _)).tabs _ (stripeI_lt hX.pos h)
  refine (hit_any _ _ bits most _ es _ h W hT hI hh hh2).mono (fun e w' hw => ⟨hw.1, at_low hX h _ _ hw.2.1, hw.2.1, _, .inl rfl, ?_⟩)
  obtain ⟨_, _, es', hT', hI'⟩ := hw
  refine ⟨bits, es', ?_, hI'⟩
  rw [show (hitL h (sOf h Ls)).length = (sOf h Ls).length from hit_length hI.sorted h]
  exact hT'

theorem remIf_has (hH : Has w p most Ls F) (h a : Int) (hh : 0 ≤ h) (hh2 : h < 18446744073709551616) :
    Calls Try.prog 23 #[p, .int .u64 h, .int .u64 a] w fun e w' => e = .returned (.bool (xremIf h a Ls).1) ∧ Then w w' p most (xremIf h a Ls).2 F := by
  obtain ⟨bx, bl, bts, bss, hp, hX, hF⟩ := id hH
  have hg : ∀ W, Keep No w W → _ := fun W hW => get_has (hH.keep hW (fun _ _ => no _)) h hh hh2
  cases hx : xget h Ls with
  | none =>
    simp only [xremIf, hx]
    rw [hx] at hg
    exact (remIf_no p h a _ _ w hg (.inl rfl)).mono (fun e w' hw => ⟨hw.1, hH.stays hw.2⟩)
  | some o =>
    rw [hx] at hg
    by_cases ha : o.a = a
    · simp only [xremIf, hx, ha, if_true]
      have hsi := stripeI_lt hX.pos h
      subst hp
      refine (remIf_yes _ h a o (valE ((xget h Ls).getD z)) (.bool (xget h Ls).isSome) w _ hg ?_ (by simp [ha])).mono (fun e w' hw => ⟨hw.1, hF ▸ idx_around hX hsi hw.2⟩)
      intro W hW
      have hXW := hX.keep hW (fun _ _ => no _)
      refine (remove_walk _ _ h _ _ W _ (idx_at hXW hh hh2) ?_).mono (fun e w' hw => hw)
      intro W2 hW2
      obtain ⟨bits, es, hT, hI⟩ := (hXW.keep hW2 (fun _ _ => no _)).tabs _ hsi
      rw [← opt_val]
      exact (remove_any _ _ bits most es _ h W2 hT hI hh hh2).mono (fun e w' hw => ⟨hw.1, at_low hXW h _ _ hw.2.1, hw.2.1, _, .inl rfl, hw.2.2⟩)
    · simp only [xremIf, hx, ha, if_false]
      exact (remIf_no p h a _ _ w hg (.inr ⟨rfl, by simpa using ha⟩)).mono (fun e w' hw => ⟨hw.1, hH.stays hw.2⟩)

theorem move_has (hH : Has w p most Ls F) (h fr to : Int) (hh : 0 ≤ h) (hh2 : h < 18446744073709551616) (ht : 0 ≤ to) (ht2 : to < 18446744073709551616) :
    Calls Try.prog 24 #[p, .int .u64 h, .int .u64 fr, .int .u64 to] w fun e w' => e = .returned (.bool (xmove most h fr to Ls).1) ∧ Then w w' p most (xmove most h fr to Ls).2 F := by
  obtain ⟨bx, bl, bts, bss, hp, hX, hF⟩ := id hH
  have hg : ∀ W, Keep No w W → _ := fun W hW => get_has (hH.keep hW (fun _ _ => no _)) h hh hh2
  cases hx : xget h Ls with
  | none =>
    simp only [xmove, hx]
    rw [hx] at hg
    exact (move_no p h fr to _ _ w hg (.inl rfl)).mono (fun e w' hw => ⟨hw.1, hH.stays hw.2⟩)
  | some o =>
    rw [hx] at hg
    by_cases ha : o.a = fr
    · by_cases hto : to = 0
      · simp only [xmove, hx, ha, hto, ne_eq, not_true_eq_false, and_false, if_false]
        exact (move_no p h fr 0 _ _ w hg (.inr (.inr ⟨rfl, by simpa using ha, rfl⟩))).mono (fun e w' hw => ⟨hw.1, hH.stays hw.2⟩)
      · have hc : o.a = fr ∧ to ≠ 0 := ⟨ha, hto⟩
        simp only [xmove, hx, if_pos hc]
        have hsi := stripeI_lt hX.pos h
        subst hp
        refine (move_yes _ _ h fr to o w _ hg (idx_at hX hh hh2) ?_ (by simp [ha]) (by simpa using hto)).mono (fun e w' hw => ⟨hw.1, hF ▸ idx_around hX hsi hw.2⟩)
        intro W hW
        obtain ⟨bits, es, hT, hI⟩ := (hX.keep hW (fun _ _ => no _)).tabs _ hsi
        have hm := lget_some hx
        obtain ⟨hok, hfu⟩ := hI.ok o hm.1
        refine (put_any _ _ bits most es _ { o with a := to } W hT hI ⟨hok.1, hok.2.1, ht, ht2, hok.2.2.2.2⟩ (by simpa [Ent.full] using hto)).mono (fun e w' hw => ⟨⟨_, hw.1⟩, hw.2.1.size, hw.2.1, hw.2.2⟩)
    · have hc : ¬ (o.a = fr ∧ to ≠ 0) := fun h => ha h.1
      simp only [xmove, hx, if_neg hc]
      exact (move_no p h fr to _ _ w hg (.inr (.inl ⟨rfl, by simpa using ha⟩))).mono (fun e w' hw => ⟨hw.1, hH.stays hw.2⟩)

theorem put_has (hH : Has w p most Ls F) (e : Ent) (hok : e.ok) :
    Calls Try.prog 21 #[p, valE e] w fun e' w' => e' = .returned (.tuple #[valE ((xput most e Ls).1.getD z), .bool (xput most e Ls).1.isSome, .int .i64 (xput most e Ls).2.1]) ∧ Then w w' p most (xput most e Ls).2.2 F := by
  obtain ⟨bx, bl, bts, bss, rfl, hX, rfl⟩ := id hH
  have hsi := stripeI_lt hX.pos e.h
  by_cases ha : e.a = 0
  · simp only [xput, if_pos ha]
    exact (put_arg _ _ e w (idx_at hX hok.1 hok.2.1) (by simpa using ha)).mono (fun e w' hw => ⟨hw.1, hH.stays hw.2⟩)
  · by_cases hv : ∃ o, xget e.h Ls = some o ∧ e.v < o.v
    · simp only [xput, if_neg ha, if_pos hv]
      obtain ⟨o, ho, hlt⟩ := hv
      refine (put_older _ _ e o w (idx_at hX hok.1 hok.2.1) ?_ (by simpa using ha) (by simpa using hlt)).mono (fun e w' hw => ⟨hw.1, hH.stays hw.2⟩)
      have := idx_get hX hok.1 hok.2.1
      rw [ho] at this
      exact this
    · simp only [xput, if_neg ha, if_neg hv]
      refine (put_on _ _ e _ _ _ _ _ w _ (idx_at hX hok.1 hok.2.1) (idx_get hX hok.1 hok.2.1) ?_ (by simpa using ha) ?_).mono (fun e' w' hw => ⟨hw.1, idx_around hX hsi hw.2⟩)
      · intro W hW
        obtain ⟨bits, es, hT, hI⟩ := (hX.keep hW (fun _ _ => no _)).tabs _ hsi
        rw [← opt_val]
        exact (put_any _ _ bits most es _ e W hT hI hok (by simpa [Ent.full] using ha)).mono (fun e' w' hw => ⟨hw.1, at_low hX e.h _ _ hw.2.1, hw.2.1, hw.2.2⟩)
      · cases hx : xget e.h Ls with
        | none => exact .inl rfl
        | some o => exact .inr ⟨rfl, by simp; exact Int.not_lt.1 (fun h => hv ⟨o, hx, h⟩)⟩
end
end Go.Proofs.Ytaijfgajcmopfaa.X4
/- Stripe, Len, Stripes, All of an index that stands for lists; awake. -/
set_option linter.unusedVariables false
namespace Go.Proofs.Ytaijfgajcmopfaa.X5
open Go.RowKit Go.Shelf V Rh T W1 W2 W3 W4 W6 W7 W10 Rf X1 X2 X3 X4

def xall (n : Int) (Ls : List (List Ent)) : List Ent := if 0 ≤ n ∧ n < Ls.length then Ls.getD n.toNat [] else []

theorem Seq.mono {α : Type} {P : Program} {gf : Nat} {lb : Array Value} {encs : α → Array Value} {xs : List α} {w W : World} (h : Seq P gf lb encs xs w) (m : Keep No w W) : Seq P gf lb encs xs W :=
  fun l J Jx W2 hW2 => h l J Jx W2 (m.trans hW2 (fun _ _ e => e))

section
variable {w : World} {p : Value} {most : Nat} {Ls : List (List Ent)} {F : Nat → Prop}

theorem stripe_has (hH : Has w p most Ls F) (h : Int) (hh : 0 ≤ h) (hh2 : h < 18446744073709551616) :
    Calls Try.prog 20 #[p, .int .u64 h] w fun e w' => e = .returned (.int .i64 (stripeI Ls.length h : Nat)) ∧ w = w' := by
  obtain ⟨bx, bl, bts, bss, rfl, hX, rfl⟩ := hH
  obtain ⟨cap, hb⟩ := hX.head
  exact stripe_any bx bl _ cap h w hb hX.pos hX.most64 hh hh2

theorem stripes_has (hH : Has w p most Ls F) : Calls Try.prog 10 #[p] w fun e w' => e = .returned (.int .i64 Ls.length) ∧ w = w' := by
  obtain ⟨bx, bl, bts, bss, rfl, hX, rfl⟩ := hH
  obtain ⟨cap, hb⟩ := hX.head
  exact stripes_any bx bl _ cap w hb

theorem len_has (hH : Has w p most Ls F) (n : Int) : Calls Try.prog 19 #[p, .int .i64 n] w fun e w' => e = .returned (.int .i64 (xall n Ls).length) ∧ w = w' := by
  obtain ⟨bx, bl, bts, bss, rfl, hX, rfl⟩ := hH
  refine len_walk _ _ n _ w (stripeN_any bx bl most bts bss Ls n w hX) ?_
  unfold tabOf xall
  rw [hX.len1]
  split
  · rename_i hc
    obtain ⟨bits, es, hT, hI⟩ := hX.tabs n.toNat (by omega)
    exact len_any _ _ bits most _ es _ w hT hI
  · exact len_nil w

/-- the iterator of a stripe -/
theorem all_has (hH : Has w p most Ls F) (n : Int) : Calls Try.prog 11 #[p, .int .i64 n] w fun e w' => e = .returned (.func (.func 48) #[] #[.pointer (some ⟨w.heap.size, 0, none⟩)]) ∧ Keep No w w' ∧ Seq Try.prog 48 #[.pointer (some ⟨w.heap.size, 0, none⟩)] encs (xall n Ls) w' := by
  obtain ⟨bx, bl, bts, bss, rfl, hX, rfl⟩ := hH
  have hp : tabOf bts n = .pointer none ∨ ∃ b, tabOf bts n = .pointer (some ⟨b, 0, none⟩) := by
    unfold tabOf
    split
    · exact .inr ⟨_, rfl⟩
    · exact .inl rfl
  refine (all_walk _ _ n w (stripeN_any bx bl most bts bss Ls n w hX) (all_any _ w hp)).mono ?_
  rintro e w' ⟨rfl, rfl⟩
  refine ⟨rfl, (Keep.refl _ _).alloc _, ?_⟩
  have hB : Blk (w.alloc (.cells #[tabOf bts n] 70)) w.heap.size [tabOf bts n] 70 := Blk.new' _ rfl
  have hX' := hX.keep ((Keep.refl No _).alloc (.cells #[tabOf bts n] 70)) (fun _ _ => no _)
  clear hX
  revert hB
  unfold xall
  split
  · rename_i hc
    intro hB
    obtain ⟨bits, es, hT, hI⟩ := hX'.tabs n.toNat (by omega)
    refine all_seq _ _ _ bits most _ es _ _ ?_ hT hI
    have : tabOf bts n = ptr (bts.getD n.toNat 0) := by rw [tabOf, if_pos (by rw [hX'.len1]; exact hc)]
    rw [this] at hB ⊢
    exact hB
  · rename_i hc
    intro hB
    have : tabOf bts n = .pointer none := by rw [tabOf, if_neg (by rw [hX'.len1]; exact hc)]
    rw [this] at hB ⊢
    exact all_seq_nil _ _ hB
end

theorem has_new {w : World} {bx bl : Nat} {bts bss : List Nat} {most : Nat} {Ls : List (List Ent)} (h : Idx w bx bl bts bss most Ls) : Has w (ptr bx) most Ls (Foot bx bl bts bss) := ⟨_, _, _, _, rfl, h, rfl⟩

def e1 : Ent := ⟨5, 281474976710656, 3, 0⟩
def e2 : Ent := ⟨5, 562949953421312, 2, 0⟩
theorem xput1 : xput 4 e1 [[], []] = (none, 0, [[], [e1]]) := by decide
theorem xput2 : xput 4 e2 [[], [e1]] = (none, 120, [[], [e1]]) := by decide
theorem xget1 : xget 5 [[], [e1]] = some e1 := by decide

set_option maxRecDepth 100000 in
set_option maxHeartbeats 1000000 in
theorem awake_any (w : World) : Calls Try.prog 18 #[] w fun e w' => e = .returned (.bool true) ∧ Keep No w w' := by
  have hnew := new_any 2 2 4 w (by decide) (by decide) (by decide) (by decide) (by decide)
  have hput1 : ∀ W p F, Has W p 4 [[], []] F → Calls Try.prog 21 #[p, valE e1] W fun e' w' => e' = .returned (.tuple #[valE z, .bool false, .int .i64 0]) ∧ Then W w' p 4 [[], [e1]] F := fun W p F h => by
    have := put_has h e1 (by unfold Ent.ok; decide)
    rw [xput1] at this
    exact this
  have hput2 : ∀ W p F, Has W p 4 [[], [e1]] F → Calls Try.prog 21 #[p, valE e2] W fun e' w' => e' = .returned (.tuple #[valE z, .bool false, .int .i64 120]) ∧ Then W w' p 4 [[], [e1]] F := fun W p F h => by
    have := put_has h e2 (by unfold Ent.ok; decide)
    rw [xput2] at this
    exact this
  have hget : ∀ W p F, Has W p 4 [[], [e1]] F → Calls Try.prog 26 #[p, .int .u64 5] W fun e' w' => e' = .returned (.tuple #[valE e1, .bool true]) ∧ Keep No W w' := fun W p F h => by
    have := get_has h 5 (by decide) (by decide)
    rw [xget1] at this
    exact this
  have hstr : ∀ W p F, Has W p 4 [[], [e1]] F → Calls Try.prog 20 #[p, .int .u64 5] W fun e' w' => e' = .returned (.int .i64 1) ∧ W = w' := fun W p F h => stripe_has h 5 (by decide) (by decide)
  have hlen : ∀ W p F, Has W p 4 [[], [e1]] F → Calls Try.prog 19 #[p, .int .i64 1] W fun e' w' => e' = .returned (.int .i64 1) ∧ W = w' := fun W p F h => len_has h 1
  have v1 : valE e1 = .agg #[.int .u64 5, .int .u64 281474976710656, .int .u64 3, .int .u8 0] := rfl
  have v2 : valE e2 = .agg #[.int .u64 5, .int .u64 562949953421312, .int .u64 2, .int .u8 0] := rfl
  have v0 : valE z = .agg #[.int .u64 0, .int .u64 0, .int .u64 0, .int .u8 0] := rfl
  rw [v0, v1] at hput1
  rw [v0, v2] at hput2
  rw [v1] at hget
  clear v0 v1 v2
  go_enter Try.func18, Try.ntmps18
  go_wp2_with (first | (go_at_call 30; refine hnew.mono ?_; rintro e w1 ⟨bx, rfl, bl, bts, bss, hX, hF, hk⟩; have HK1 := hid hk; have HX1 := hid (has_new hX); have HF := hid hF; clear hX hF hk; unfold ptr at *))
  refine (hput1 _ _ _ HX1.out).mono ?_
  rintro e w2 ⟨rfl, hk, F2, hH, hF2⟩
  have HK2 := hid ((HK1.out.trans hk (fun k hk hf => absurd (HF.out k hf) (by omega))) : Keep No w w2)
  have HF2 := hid (show ∀ k, F2 k → w.heap.size ≤ k from fun k hk => (hF2 k hk).elim (HF.out k) (fun h => Nat.le_trans HK1.out.size h))
  have HX2 := hid hH
  clear hk hH hF2 HX1 HF HK1
  go_wp2_with fail
  refine (hput2 _ _ _ (HX2.out.keep ((Keep.refl No _).alloc _) (fun _ _ => no _))).mono ?_
  rintro e w3 ⟨rfl, hk, F3, hH, hF3⟩
  have HK3 := hid (((HK2.out.alloc _).trans hk (fun k hk hf => absurd (HF2.out k hf) (by omega))) : Keep No w w3)
  have HX3 := hid hH
  clear hk hH hF3 HX2 HF2 HK2
  go_wp2_with fail
  refine (hget _ _ _ (HX3.out.keep ((Keep.refl No _).alloc _) (fun _ _ => no _))).mono ?_
  rintro e w4 ⟨rfl, hk⟩
  have HK4 := hid ((HK3.out.alloc _).trans hk (fun k hk hf => hf))
  have HX4 := hid ((HX3.out.keep ((Keep.refl No _).alloc _) (fun _ _ => no _)).keep hk (fun _ _ => no _))
  clear hk HX3 HK3
  go_wp2_with (first | (go_at_call 20; refine (hstr _ _ _ (HX4.out.keep ((Keep.refl No _).alloc _) (fun _ _ => no _))).mono ?_; rintro e w5 ⟨rfl, rfl⟩) | (go_at_call 19; refine (hlen _ _ _ (HX4.out.keep ((Keep.refl No _).alloc _) (fun _ _ => no _))).mono ?_; rintro e w5 ⟨rfl, rfl⟩))
  go_ret
  exact ⟨rfl, HK4.out.alloc _⟩
end Go.Proofs.Ytaijfgajcmopfaa.X5
/- Loops whose frame's list of deferred calls grows (by the marks of ranges over functions); a return past the marks. -/
set_option linter.unusedVariables false
namespace Go.Proofs.Ytaijfgajcmopfaa.Lp
open Go.RowKit V Rf

/-- a frame's list: marks alone, none below base -/
def Marks (base : Nat) (ds : List Deferred) (W : World) : Prop := ∃ Ds : List Nat, ds = Ds.map Rf.mark ∧ Ds.Nodup ∧ ∀ D ∈ Ds, base ≤ D ∧ W.heap[D]? = some (.deferred (some []))

def IsMark (W : World) (k : Nat) : Prop := W.heap[k]? = some (.deferred (some []))

theorem Marks.nil (base : Nat) (W : World) : Marks base [] W := ⟨[], rfl, List.nodup_nil, fun _ h => by cases h⟩
theorem Marks.keep {base : Nat} {ds : List Deferred} {S : Nat → Prop} {W W' : World} (m : Marks base ds W) (k : Keep S W W') (hS : ∀ j, base ≤ j → IsMark W j → ¬ S j) : Marks base ds W' := by
  obtain ⟨Ds, h1, h2, h3⟩ := m
  refine ⟨Ds, h1, h2, fun D hD => ⟨(h3 D hD).1, ?_⟩⟩
  have h := (h3 D hD).2
  exact (k.block D (Array.getElem?_eq_some_iff.1 h).1 (hS D (h3 D hD).1 h)).trans h
theorem Marks.cons {base D : Nat} {ds : List Deferred} {S : Nat → Prop} {W W' : World} (m : Marks base ds W) (k : Keep S W W') (hS : ∀ j, base ≤ j → IsMark W j → ¬ S j) (hD : W.heap.size ≤ D) (hb : base ≤ D) (hd : W'.heap[D]? = some (.deferred (some []))) :
    Marks base (Rf.mark D :: ds) W' := by
  have m' := m.keep k hS
  obtain ⟨Ds, h1, h2, h3⟩ := m
  obtain ⟨Ds', h1', h2', h3'⟩ := m'
  have he : Ds = Ds' := by
    have : Ds.map Rf.mark = Ds'.map Rf.mark := h1.symm.trans h1'
    refine (List.map_inj_right (f := Rf.mark) ?_).1 this
    intro x y h
    unfold Rf.mark at h
    injection h with h
    injection h
  subst he
  refine ⟨D :: Ds, by rw [h1]; rfl, List.nodup_cons.2 ⟨fun hm => ?_, h2⟩, ?_⟩
  · have := (Array.getElem?_eq_some_iff.1 (h3 D hm).2).1
    omega
  · intro D' hD'
    rcases List.mem_cons.1 hD' with rfl | hD'
    · exact ⟨hb, hd⟩
    · exact h3' D' hD'

theorem Blk.notMark {w : World} {b : Nat} {cs : List Value} {t : TypeId} (h : Blk w b cs t) : ¬ IsMark w b := by
  intro h'
  unfold Blk at h
  unfold IsMark at h'
  rw [h] at h'
  cases h'

theorem marks_ret {P : Program} {fn : Func} {tmps : Array Value} {ds : List Deferred} {base n : Nat} {W : World} {R : Ending → World → Prop} (m : Marks base ds W)
    (h : ∀ W', Keep (fun k => base ≤ k ∧ IsMark W k) W W' → ∃ v, (results fn tmps).run P W' = .ok v W' ∧ R (.returned v) W') : bodyPostM Fence.wide n P fn R .ret { tmps := tmps, defers := ds } W := by
  obtain ⟨Ds, rfl, h2, h3⟩ := m
  exact leaves_marks Ds W h2 (fun D hD => (h3 D hD).2) (fun W' hW' => h W' (hW'.mono (fun k _ hk => h3 k hk)))
theorem marks_end {P : Program} {fn : Func} {tmps : Array Value} {ds : List Deferred} {base n : Nat} {W : World} {R : Ending → World → Prop} (m : Marks base ds W)
    (h : ∀ W', Keep (fun k => base ≤ k ∧ IsMark W k) W W' → ∃ v, (results fn tmps).run P W' = .ok v W' ∧ R (.returned v) W') : bodyPostM Fence.wide n P fn R .normal { tmps := tmps, defers := ds } W := marks_ret m h

def setAll (A : Array Value) : List Nat → (Nat → Value) → Array Value
  | [], _ => A
  | s :: ss, u => (setAll A ss u).setIfInBounds s (u s)

theorem setAll_self (A : Array Value) (ss : List Nat) : setAll A ss (fun i => A.getD i undef) = A := by
  induction ss with
  | nil => rfl
  | cons s ss ih =>
    rw [setAll, ih]
    exact Array.ext Array.size_setIfInBounds fun i h1 h2 => by
      rw [Array.getElem_setIfInBounds h2]
      split
      · rename_i hs
        subst hs
        rw [Array.getD_eq_getD_getElem?, Array.getElem?_eq_getElem h2]
        rfl
      · rfl

/-- **A LOOP**: the body writes 'slots' alone; the relation bears a number that every round lowers, and the frame's list of deferred calls. -/
theorem wp_loop_slots {P : Program} {Q : Exit → Act → World → Prop} {A0 : Array Value} {d0 : List Deferred} {w : World} {c : Code} (slots : List Nat) (rel : Nat → (Nat → Value) → List Deferred → World → Prop) (n0 : Nat)
    (h0 : rel n0 (fun i => A0.getD i undef) d0 w)
    (round : ∀ n u ds wr, rel n u ds wr → ∀ K : Act → World → Prop, (∀ a' w', Hid (∃ m, m < n ∧ a'.tmps = setAll A0 slots (fun i => a'.tmps.getD i undef) ∧ rel m (fun i => a'.tmps.getD i undef) a'.defers w') → K a' w') →
      c.wp P (Exit.then K Q) { tmps := setAll A0 slots u, defers := ds } wr) :
    (Code.loop c).wp P Q { tmps := A0, defers := d0 } w := by
  refine wp_loop_ghost (fun n a w => a.tmps = setAll A0 slots (fun i => a.tmps.getD i undef) ∧ rel n (fun i => a.tmps.getD i undef) a.defers w) n0 ⟨(setAll_self _ _).symm, h0⟩ ?_
  rintro n ⟨tmps, ds⟩ wr ⟨h1, h2⟩
  have h := round n _ ds wr h2 (fun a' w' => ∃ n', n' < n ∧ (a'.tmps = setAll A0 slots (fun i => a'.tmps.getD i undef) ∧ rel n' (fun i => a'.tmps.getD i undef) a'.defers w')) (fun a' w' h => h.out)
  simp only at h1
  rw [← h1] at h
  exact h
end Go.Proofs.Ytaijfgajcmopfaa.Lp
/- Purge. -/
set_option linter.unusedVariables false
namespace Go.Proofs.Ytaijfgajcmopfaa.X6
open Go.RowKit Go.Shelf V Rh T W1 W2 W3 W4 W6 W7 W10 Rf X1 X2 X3 X4 X5 Lp
attribute [local go_sem] Oper.semAt_some

theorem prefix_nil {α : Type} {pre : List α} {x : α} (h : (pre ++ [x]) <+: []) : False := by
  have := List.prefix_nil.1 h
  simp at this

set_option maxRecDepth 100000 in
set_option maxHeartbeats 1000000 in
theorem purge_nil (p : Value) (n r : Int) (w : World) (hat : ∀ W, Keep No w W → Calls Try.prog 27 #[p, .int .i64 n] W fun e w' => e = .returned (.pointer none) ∧ W = w') :
    Calls Try.prog 12 #[p, .int .i64 n, .int .i64 r] w fun e w' => e = .returned (.int .i64 0) ∧ Keep No w w' := by
  refine calls_of_marks Try.func12 rfl ?_
  simp only [Try.ntmps12, List.size_toArray, List.length_cons, List.length_nil, Nat.reduceAdd, Nat.reduceSub, Array.replicate_succ, Array.replicate_zero, List.push_toArray, List.append_toArray, List.nil_append, List.cons_append]
  go_wp2
  go_step3
  go_wp2_with (go_at_call 27; refine (hat _ ((Keep.refl _ _).alloc _)).mono ?_; rintro e w' ⟨rfl, rfl⟩)
  go_step3
  go_wp2_with (go_at_call 28; refine (all_any _ _ (.inl rfl)).mono ?_; rintro e w' ⟨rfl, rfl⟩)
  have hB0 : Blk ((((w.alloc (.cells #[.int .i64 r] 3)).alloc (.cells #[.pointer none] 70)).alloc (.cells #[.int .i64 0] 3)).alloc (.cells #[.pointer none] 70)) (w.heap.size + 1 + 1 + 1) [.pointer none] 70 := by
    have := Blk.new2 (w := w.alloc (.cells #[.int .i64 r] 3)) (o := .cells #[.pointer none] 70) (o2 := .cells #[.int .i64 0] 3) (cs := #[.pointer none]) (cl := [.pointer none]) 70 rfl
    simpa using this
  have hB : Blk ((((w.alloc (.cells #[.int .i64 r] 3)).alloc (.cells #[.pointer none] 70)).alloc (.cells #[.int .i64 0] 3)).alloc (.cells #[.pointer none] 70)) (w.heap.size + 1 + 1) [.int .i64 0] 3 := by
    have := (Blk.new1 (w := w.alloc (.cells #[.int .i64 r] 3)) (o := .cells #[.pointer none] 70) (cs := #[.int .i64 0]) (cl := [.int .i64 0]) 3 rfl).alloc (.cells #[.pointer none] 70)
    simpa using this
  have hK : Keep No w ((((w.alloc (.cells #[.int .i64 r] 3)).alloc (.cells #[.pointer none] 70)).alloc (.cells #[.int .i64 0] 3)).alloc (.cells #[.pointer none] 70)) := ((((Keep.refl _ _).alloc _).alloc _).alloc _).alloc _
  refine wp_range (gf := 48) (lb := #[.pointer (some ⟨w.heap.size + 1 + 1 + 1, 0, none⟩)]) (encs := encs) (xs := []) rfl (enters_of Try.func48 (by kernel_rfl) rfl) (all_seq_nil _ _ hB0) (fun _ => rfl)
    (fun O s W => Blk W (w.heap.size + 1 + 1) [.int .i64 0] 3 ∧ Keep No w W) (fun _ _ _ _ => False) ?h0 ?hI (fun _ _ _ _ _ h _ _ => h) ?hround ?hdone (fun _ _ _ _ _ _ _ _ h => h.elim)
  case h0 =>
    intro O W hW hO
    exact ⟨hB.mod hW (no _), hK.trans hW (fun _ _ h => h)⟩
  case hI =>
    intro O s A B hs hAB hO
    exact ⟨hs.1.mod hAB (fun h => by have := (hO _ h).1; simp at this; omega), hs.2.trans hAB (fun k hk h => by have := (hO _ h).1; simp at this; omega)⟩
  case hround =>
    intro l O pre x W hI hp
    exact (prefix_nil hp).elim
  case hdone =>
    intro D O W hD hOD hO hI hm
    obtain ⟨hb, hk⟩ := hI
    obtain ⟨z0, c0, f0⟩ := hb.one
    have HK := hid hk
    clear hb hk hB0 hB hK
    go_wp2
    rw [Exit.noGoto_ret]
    refine marks_ret (base := w.heap.size) ⟨[D], rfl, by simp, by simp; exact ⟨by simp at hD; omega, hm⟩⟩ fun W2 hW2 => ⟨_, results_tmp rfl _ _ _, rfl, ?_⟩
    exact HK.out.trans hW2 (fun k hk h => by have := h.1; omega)

/-- goes with region r -/
def phit (r : Int) (e : Ent) : Bool := decide (0 ≤ r) && (e.a / 281474976710656 == r)
def pfold (r : Int) (s L : List Ent) : List Ent := s.foldl (fun L e => if phit r e then lrem e.h L else L) L
theorem pfold_snoc (r : Int) (s L : List Ent) (x : Ent) : pfold r (s ++ [x]) L = if phit r x then lrem x.h (pfold r s L) else pfold r s L := by simp [pfold]
theorem pcount_snoc (r : Int) (s : List Ent) (x : Ent) : (s ++ [x]).countP (phit r) = s.countP (phit r) + if phit r x then 1 else 0 := by
  rw [List.countP_append, List.countP_singleton]

set_option maxRecDepth 100000 in
set_option maxHeartbeats 2000000 in
theorem purge_on (p : Value) (n r : Int) (bt bs most : Nat) (L : List Ent) (w : World) (hat : ∀ W, Keep No w W → Calls Try.prog 27 #[p, .int .i64 n] W fun e w' => e = .returned (ptr bt) ∧ W = w') (hI : Is w bt bs most L) (hr : -9223372036854775808 ≤ r) (hr2 : r < 9223372036854775808) :
    Calls Try.prog 12 #[p, .int .i64 n, .int .i64 r] w fun e w' => e = .returned (.int .i64 (L.countP (phit r) : Nat)) ∧ Keep (W2.At bt bs) w w' ∧ Is w' bt bs most (pfold r L L) := by
  unfold ptr at *
  obtain ⟨hi1, hi2⟩ := is_lt hI
  refine calls_of_marks Try.func12 rfl ?_
  simp only [Try.ntmps12, List.size_toArray, List.length_cons, List.length_nil, Nat.reduceAdd, Nat.reduceSub, Array.replicate_succ, Array.replicate_zero, List.push_toArray, List.append_toArray, List.nil_append, List.cons_append]
  have HI := hid hI
  have HR := hid hr
  have HR2 := hid hr2
  clear hI hr hr2
  go_wp2
  go_step3
  go_wp2_with (go_at_call 27; refine (hat _ ((Keep.refl _ _).alloc _)).mono ?_; rintro e w' ⟨rfl, rfl⟩)
  go_step3
  go_wp2_with (go_at_call 28; refine (all_any _ _ (.inr ⟨_, rfl⟩)).mono ?_; rintro e w' ⟨rfl, rfl⟩)
  obtain ⟨W0, hW0⟩ : ∃ W0, ((((w.alloc (.cells #[.int .i64 r] 3)).alloc (.cells #[.pointer (some ⟨bt, 0, none⟩)] 70)).alloc (.cells #[.int .i64 0] 3)).alloc (.cells #[.pointer (some ⟨bt, 0, none⟩)] 70)) = W0 := ⟨_, rfl⟩
  have hsz : W0.heap.size = w.heap.size + 4 := by rw [← hW0]; simp
  have hB0 : Blk W0 (w.heap.size + 1 + 1 + 1) [.pointer (some ⟨bt, 0, none⟩)] 70 := by
    have := Blk.new2 (w := w.alloc (.cells #[.int .i64 r] 3)) (o := .cells #[.pointer (some ⟨bt, 0, none⟩)] 70) (o2 := .cells #[.int .i64 0] 3) (cs := #[.pointer (some ⟨bt, 0, none⟩)]) (cl := [.pointer (some ⟨bt, 0, none⟩)]) 70 rfl
    rw [← hW0]
    simpa using this
  have hB2 : Blk W0 (w.heap.size + 1 + 1) [.int .i64 0] 3 := by
    have := (Blk.new1 (w := w.alloc (.cells #[.int .i64 r] 3)) (o := .cells #[.pointer (some ⟨bt, 0, none⟩)] 70) (cs := #[.int .i64 0]) (cl := [.int .i64 0]) 3 rfl).alloc (.cells #[.pointer (some ⟨bt, 0, none⟩)] 70)
    rw [← hW0]
    simpa using this
  have hB1 : Blk W0 (w.heap.size + 1) [.pointer (some ⟨bt, 0, none⟩)] 70 := by
    have := ((Blk.new' (w := w.alloc (.cells #[.int .i64 r] 3)) (cs := #[.pointer (some ⟨bt, 0, none⟩)]) (cl := [.pointer (some ⟨bt, 0, none⟩)]) 70 rfl).alloc (.cells #[.int .i64 0] 3)).alloc (.cells #[.pointer (some ⟨bt, 0, none⟩)] 70)
    rw [← hW0]
    simpa using this
  have hBr : Blk W0 w.heap.size [.int .i64 r] 3 := by
    rw [← hW0]
    exact (((Blk.new' (w := w) (cs := #[.int .i64 r]) (cl := [.int .i64 r]) 3 rfl).alloc _).alloc _).alloc _
  have hK : Keep No w W0 := by rw [← hW0]; exact ((((Keep.refl _ _).alloc _).alloc _).alloc _).alloc _
  rw [hW0]
  clear hW0
  have hI0 := is_keep HI.out hK (no _) (no _)
  obtain ⟨bits, es, hT, hTI⟩ := id hI0
  have hok := hTI.ok
  have hLn : L.length ≤ 65536 := by have := hTI.room; have := hTI.n_le; omega
  refine wp_range (gf := 48) (lb := #[.pointer (some ⟨w.heap.size + 1 + 1 + 1, 0, none⟩)]) (encs := encs) (xs := L) rfl (enters_of Try.func48 (by kernel_rfl) rfl) (all_seq _ _ _ bits most _ es _ _ hB0 hT hTI) (fun _ => rfl)
    (fun O s W => Blk W w.heap.size [.int .i64 r] 3 ∧ Blk W (w.heap.size + 1) [.pointer (some ⟨bt, 0, none⟩)] 70 ∧ Blk W (w.heap.size + 1 + 1) [.int .i64 (s.countP (phit r) : Nat)] 3 ∧ Is W bt bs most (pfold r s L) ∧ Keep (W2.At bt bs) w W) (fun _ _ _ _ => False) ?h0 ?hI (fun _ _ _ _ _ h _ _ => h) ?hround ?hdone (fun _ _ _ _ _ _ _ _ h => h.elim)
  case h0 =>
    intro O W hW hO
    exact ⟨hBr.mod hW (no _), hB1.mod hW (no _), hB2.mod hW (no _), is_keep hI0 hW (no _) (no _), (hK.trans hW (fun _ _ h => h)).mono (fun _ _ h => h.elim)⟩
  case hI =>
    intro O s A B hs hAB hO
    obtain ⟨s1, s2, s3, s4, s5⟩ := hs
    have hne : ∀ k, k < W0.heap.size → ¬ O k := fun k hk h => by have := (hO _ h).1; omega
    exact ⟨s1.mod hAB (hne _ (by omega)), s2.mod hAB (hne _ (by omega)), s3.mod hAB (hne _ (by omega)), is_keep s4 hAB (hne _ (by omega)) (hne _ (by omega)), s5.trans hAB (fun k hk h => absurd h (hne _ (by omega)))⟩
  case hround =>
    intro l O pre x W hI hp hO
    have hxm : x ∈ L := hp.subset (by simp)
    obtain ⟨ho1, ho2, ho3, ho4, ho5, ho6, ho7, ho8⟩ := (hok x hxm).1
    have hlen := hp.length_le
    simp only [List.length_append, List.length_singleton] at hlen
    have hcn : pre.countP (phit r) ≤ 65536 := Nat.le_trans List.countP_le_length (by omega)
    have hcn0 : (0 : Int) ≤ (pre.countP (phit r) : Nat) := by omega
    have hcn1 : ((pre.countP (phit r) : Nat) : Int) ≤ 65536 := by omega
    simp only [encs, valE]
    have HHI := hid hI
    have HO := hid hO
    have HLe := hid hLn
    clear hI hO hp hlen hok hLn hcn hT hTI hI0
    gi_wp2
    refine ⟨⟨by simp, fun k hk => Below.heap_alloc _ _ _ (HO.out k hk).2⟩, ⟨HHI.out.1.alloc _, HHI.out.2.1.alloc _, HHI.out.2.2.1.alloc _, is_keep HHI.out.2.2.2.1 ((Keep.refl No _).alloc _) (no _) (no _), HHI.out.2.2.2.2.alloc _⟩, ?_⟩
    intro W2 hK2 hs2 hI2
    obtain ⟨hBr2, hB12, hB22, hIs2, hKp2⟩ := hI2
    have hB9 : Blk W2 W.heap.size [.int .u64 x.h, .int .u64 x.a, .int .u64 x.v, .int .u8 x.c] 27 := (Blk.new' 27 rfl).mod hK2 (fun h => by have := (HO.out _ h).2; omega)
    obtain ⟨z9, d0, d1, d2, d3, f9⟩ := hB9.four
    obtain ⟨zr, cr, fr⟩ := hBr2.one
    obtain ⟨z1, c1, f1⟩ := hB12.one
    obtain ⟨z2, c2, f2⟩ := hB22.one
    have H2r := hid hBr2
    have H21 := hid hB12
    have H22 := hid hB22
    have HIs := hid hIs2
    have HKp := hid hKp2
    have HO2 := hid (fun k hk => (⟨(HO.out k hk).1, by have := (HO.out k hk).2; rw [hs2]; simp; omega⟩ : W0.heap.size ≤ k ∧ k < W2.heap.size))
    clear hBr2 hB12 hB22 hIs2 hKp2 hB9 hK2 hs2
    by_cases h0 : r < 0
    · have h1 : decide (r < 0) = true := by simpa using h0
      have hph : phit r x = false := by unfold phit; rw [decide_eq_false (by omega)]; rfl
      have HPH := hid hph
      clear hph h0
      gi_wp2
      refine ⟨Sta.refl _ _, H2r.out, H21.out, ?_, ?_, HKp.out⟩
      · rw [pcount_snoc, HPH.out]; exact H22.out
      · rw [pfold_snoc, HPH.out]; exact HIs.out
    · have h1 : decide (r < 0) = false := by simpa using h0
      have hwr : IntKind.u64.wrap r = r := IntWalk.u64_in _ ⟨by omega, by have := HR2.out; omega⟩
      by_cases hph : phit r x = true
      · have hb : (x.a / 281474976710656 != r) = false := by
          unfold phit at hph
          simp only [Bool.and_eq_true] at hph
          rw [bne, hph.2]
          rfl
        have HPH := hid hph
        obtain ⟨bits2, es2, hT2, hI2⟩ := HIs.out
        have hrem := remove_any bt bs bits2 most es2 _ x.h W2 hT2 hI2 ho1 ho2
        have t1 : (Fence.wide.inRound l).fn 29 := trivial
        clear hph h0 hT2 hI2
        gi_wp2_with fail
        refine ⟨trivial, CallsIn.mono (CallsIn.inRound l (callsIn_wide.2 hrem)) ?_⟩
        rintro e W3 ⟨rfl, hk3, hI3⟩
        have hb0 : w.heap.size + 1 + 1 ≠ bt := by omega
        have h3r := hid (H2r.out.mod hk3 (by rintro (h | h) <;> omega))
        have h31 := hid (H21.out.mod hk3 (by rintro (h | h) <;> omega))
        have h32 := hid (H22.out.mod hk3 (by rintro (h | h) <;> omega))
        obtain ⟨y2, e2, g2⟩ := h32.out.one
        have HI3 := hid hI3
        have HK3 := hid hk3
        clear hI3 hk3 hrem c2 f2
        gi_wp2
        have hk : Keep (fun k => At bt bs k ∨ k = w.heap.size + 1 + 1) W2 (W3.setCell ⟨w.heap.size + 1 + 1, 0, none⟩ (.int .i64 ((pre.countP (phit r) : Nat) + 1))) := (HK3.out.mono (fun _ _ h => .inl h)).setCell _ _ (fun _ => .inr rfl)
        have hkb : Keep (fun k => k = w.heap.size + 1 + 1) W3 (W3.setCell ⟨w.heap.size + 1 + 1, 0, none⟩ (.int .i64 ((pre.countP (phit r) : Nat) + 1))) := (Keep.refl _ _).setCell _ _ (fun _ => rfl)
        refine ⟨Sta.of_keep hk (fun k hk => ⟨(HO2.out k hk).2, ?_⟩), h3r.out.mod hkb (by omega), h31.out.mod hkb (by omega), ?_, ?_, ?_⟩
        · have := (HO2.out k hk).1
          rintro ((h | h) | h) <;> omega
        · rw [pcount_snoc, HPH.out]; exact h32.out.set 0 _
        · rw [pfold_snoc, HPH.out]; exact is_keep HI3.out hkb (by omega) (by omega)
        · exact (HKp.out.trans HK3.out (fun _ _ h => h)).setCell _ _ (fun h => absurd (show w.heap.size + 1 + 1 < w.heap.size from h) (by omega))
      · have hb : (x.a / 281474976710656 != r) = true := by
          unfold phit at hph
          rw [decide_eq_true (by omega : 0 ≤ r), Bool.true_and] at hph
          simp only [Bool.not_eq_true] at hph
          rw [bne, hph]
          rfl
        have hph' : phit r x = false := by simpa using hph
        have HPH := hid hph'
        clear hph h0 hph'
        gi_wp2
        refine ⟨Sta.refl _ _, H2r.out, H21.out, ?_, ?_, HKp.out⟩
        · rw [pcount_snoc, HPH.out]; exact H22.out
        · rw [pfold_snoc, HPH.out]; exact HIs.out
  case hdone => 
    intro D O W hD hOD hO hI hm
    obtain ⟨hb, hb1, hb2, his, hk⟩ := hI
    obtain ⟨z0, c0, f0⟩ := hb2.one
    have HK := hid hk
    have HF := hid his
    clear hb hk his hb1 hb2 hB0 hB1 hB2 hBr hK hI0 hT hTI hok
    go_wp2
    rw [Exit.noGoto_ret]
    refine marks_ret (base := w.heap.size) ⟨[D], rfl, by simp, by simp; exact ⟨by omega, hm⟩⟩ fun W2 hW2 => ⟨_, results_tmp rfl _ _ _, rfl, ?_, ?_⟩
    · exact HK.out.trans hW2 (fun k hk h => by have := h.1; omega)
    · exact is_keep HF.out hW2 (fun h => by have := h.1; omega) (fun h => by have := h.1; omega)
end Go.Proofs.Ytaijfgajcmopfaa.X6
/- Sorted lists by position: what the document's lists do, in plain Lean. -/
set_option linter.unusedVariables false
namespace Go.Proofs.Ytaijfgajcmopfaa.Pl
open Go.RowKit V Rh T W2 W6 X4 X6

/-- where a hash stands, or would stand -/
def posL (h : Int) : List Ent → Nat
  | [] => 0
  | e :: t => if h ≤ e.h then 0 else posL h t + 1

theorem posL_le (h : Int) (L : List Ent) : posL h L ≤ L.length := by
  induction L with
  | nil => exact Nat.zero_le _
  | cons e t ih => unfold posL; split <;> simp <;> omega
theorem posL_lt {h : Int} : ∀ {L : List Ent} {j : Nat}, j < posL h L → (gt L j).h < h := by
  intro L
  induction L with
  | nil => intro j hj; simp [posL] at hj
  | cons e t ih =>
    intro j hj
    unfold posL at hj
    split at hj
    · omega
    · cases j with
      | zero => simp only [gt, List.getD_cons_zero]; omega
      | succ j => simpa [gt] using ih (j := j) (by omega)
theorem posL_ge {h : Int} : ∀ {L : List Ent}, posL h L < L.length → h ≤ (gt L (posL h L)).h := by
  intro L
  induction L with
  | nil => intro hj; simp [posL] at hj
  | cons e t ih =>
    intro hj
    unfold posL at hj ⊢
    split
    · simpa [gt]
    · rename_i hn
      simp only [hn, if_false, List.length_cons] at hj
      simpa [gt] using ih (by omega)
theorem posL_eq {h : Int} : ∀ {L : List Ent} {k : Nat}, (∀ j, j < k → (gt L j).h < h) → k ≤ L.length → (k < L.length → h ≤ (gt L k).h) → posL h L = k := by
  intro L
  induction L with
  | nil => intro k _ hk _; simp at hk; simp [posL, hk]
  | cons e t ih =>
    intro k h1 h2 h3
    unfold posL
    cases k with
    | zero =>
      have := h3 (by simp)
      simp only [gt, List.getD_cons_zero] at this
      rw [if_pos this]
    | succ k =>
      have := h1 0 (by omega)
      simp only [gt, List.getD_cons_zero] at this
      rw [if_neg (by omega), ih (k := k) (fun j hj => by simpa [gt] using h1 (j + 1) (by omega)) (by simpa using h2) (fun hk => by simpa [gt] using h3 (by simpa using hk))]

theorem tail_none {h : Int} {t : List Ent} (ht : ∀ x ∈ t, h < x.h) : lget h t = none := by
  unfold lget
  rw [List.find?_eq_none]
  intro x hx
  have := ht x hx
  simp
  omega

theorem lget_pos {h : Int} : ∀ {L : List Ent}, Sorted L → lget h L = if posL h L < L.length ∧ (gt L (posL h L)).h = h then some (gt L (posL h L)) else none := by
  intro L
  induction L with
  | nil => intro _; rfl
  | cons e t ih =>
    intro hs
    obtain ⟨hs1, hs2⟩ := List.pairwise_cons.1 hs
    unfold posL
    by_cases hle : h ≤ e.h
    · simp only [if_pos hle, gt, List.getD_cons_zero]
      by_cases heq : e.h = h
      · simp [lget, heq]
      · have : lget h (e :: t) = lget h t := by simp [lget, heq]
        rw [this, tail_none (fun x hx => by have := hs1 x hx; omega)]
        simp [heq]
    · simp only [if_neg hle]
      have hne : e.h ≠ h := by omega
      have : lget h (e :: t) = lget h t := by simp [lget, hne]
      rw [this, ih hs2]
      simp [gt]

theorem lrem_pos {h : Int} {o : Ent} : ∀ {L : List Ent}, Sorted L → lget h L = some o → lrem h L = L.take (posL h L) ++ L.drop (posL h L + 1) := by
  intro L
  induction L with
  | nil => intro _ hg; cases hg
  | cons e t ih =>
    intro hs hg
    obtain ⟨hs1, hs2⟩ := List.pairwise_cons.1 hs
    unfold posL
    by_cases hle : h ≤ e.h
    · have heq : e.h = h := by
        by_cases heq : e.h = h
        · exact heq
        · have : lget h (e :: t) = lget h t := by simp [lget, heq]
          rw [this, tail_none (fun x hx => by have := hs1 x hx; omega)] at hg
          cases hg
      simp only [if_pos hle, List.take_zero, List.nil_append, Nat.zero_add, List.drop_succ_cons, List.drop_zero]
      unfold lrem
      rw [List.filter_cons, if_neg (by simp [heq])]
      exact List.filter_eq_self.2 (fun x hx => by have := hs1 x hx; simp; omega)
    · have hne : e.h ≠ h := by omega
      have : lget h (e :: t) = lget h t := by simp [lget, hne]
      rw [this] at hg
      simp only [if_neg hle, List.take_succ_cons, List.drop_succ_cons, List.cons_append]
      rw [← ih hs2 hg]
      simp [lrem, hne]

theorem lput_pos {e : Ent} : ∀ {L : List Ent}, Sorted L → lput e L = L.take (posL e.h L) ++ e :: L.drop (posL e.h L + if (lget e.h L).isSome then 1 else 0) := by
  intro L
  induction L with
  | nil => intro _; rfl
  | cons x t ih =>
    intro hs
    obtain ⟨hs1, hs2⟩ := List.pairwise_cons.1 hs
    unfold posL
    by_cases hle : e.h ≤ x.h
    · simp only [if_pos hle, List.take_zero, List.nil_append, Nat.zero_add]
      have h1 : (x :: t).filter (fun y => decide (y.h < e.h)) = [] := by
        rw [List.filter_eq_nil_iff]
        intro y hy
        rcases List.mem_cons.1 hy with rfl | hy
        · simp; omega
        · have := hs1 y hy; simp; omega
      have h2 : t.filter (fun y => decide (e.h < y.h)) = t := List.filter_eq_self.2 (fun y hy => by have := hs1 y hy; simp; omega)
      unfold lput
      rw [h1, List.nil_append]
      by_cases heq : x.h = e.h
      · have hg : lget e.h (x :: t) = some x := by simp [lget, heq]
        rw [hg, List.filter_cons, if_neg (by simp; omega), h2]
        simp
      · have hg : lget e.h (x :: t) = none := by
          have : lget e.h (x :: t) = lget e.h t := by simp [lget, heq]
          rw [this, tail_none (fun y hy => by have := hs1 y hy; omega)]
        rw [hg, List.filter_cons, if_pos (by simp; omega), h2]
        simp
    · have hne : x.h ≠ e.h := by omega
      have hg : lget e.h (x :: t) = lget e.h t := by simp [lget, hne]
      rw [hg]
      have := ih hs2
      unfold lput at this ⊢
      simp only [if_neg hle, List.take_succ_cons, List.cons_append]
      rw [show posL e.h t + 1 + (if (lget e.h t).isSome then 1 else 0) = (posL e.h t + if (lget e.h t).isSome then 1 else 0) + 1 by omega, List.drop_succ_cons, ← this]
      rw [List.filter_cons, if_pos (by simp; omega), List.filter_cons, if_neg (by simp; omega), List.cons_append]

/-- .. where one stands: it is set -/
theorem lput_set {e o : Ent} {L : List Ent} (hs : Sorted L) (hg : lget e.h L = some o) : posL e.h L < L.length ∧ gt L (posL e.h L) = o ∧ lput e L = L.set (posL e.h L) e := by
  have h1 := lget_pos (h := e.h) hs
  rw [hg] at h1
  split at h1
  · rename_i hc
    refine ⟨hc.1, by simpa using h1.symm, ?_⟩
    rw [lput_pos hs, hg]
    simp only [Option.isSome_some, if_true]
    rw [List.set_eq_take_append_cons_drop, if_pos hc.1]
  · cases h1
theorem lput_ins {e : Ent} {L : List Ent} (hs : Sorted L) (hg : lget e.h L = none) : lput e L = L.take (posL e.h L) ++ e :: L.drop (posL e.h L) := by
  rw [lput_pos hs, hg]
  simp

theorem hitL_set {h : Int} {o : Ent} {L : List Ent} (hs : Sorted L) (hg : lget h L = some o) : hitL h L = L.set (posL h L) (hitE o) := by
  have ho := lget_some hg
  have e1 : (hitE o).h = h := by rw [hitE_h]; exact ho.2
  unfold hitL
  rw [hg]
  have := (lput_set (e := hitE o) (o := o) hs (by rw [e1]; exact hg)).2.2
  rw [e1] at this
  exact this

/-- Purge's fold, over the whole -/
theorem pfold_filter (r : Int) : ∀ (s L : List Ent), pfold r s L = L.filter (fun e => !(s.any (fun x => phit r x && (x.h == e.h)))) := by
  intro s
  induction s with
  | nil => intro L; exact (List.filter_eq_self.2 (fun _ _ => rfl)).symm
  | cons x s ih =>
    intro L
    have h1 : pfold r (x :: s) L = pfold r s (if phit r x then lrem x.h L else L) := rfl
    rw [h1, ih]
    by_cases hx : phit r x = true
    · rw [if_pos hx]
      unfold lrem
      rw [List.filter_filter]
      congr 1
      funext e
      simp only [List.any_cons, hx, Bool.true_and, Bool.not_or, bne]
      rw [Bool.and_comm]
      congr 2
      exact Bool.beq_comm
    · rw [if_neg hx]
      simp only [Bool.not_eq_true] at hx
      congr 1
      funext e
      simp [hx]
theorem pfold_self (r : Int) {L : List Ent} (hs : Sorted L) : pfold r L L = L.filter (fun e => !phit r e) := by
  rw [pfold_filter]
  refine List.filter_congr fun e he => ?_
  congr 1
  rw [Bool.eq_iff_iff, List.any_eq_true]
  constructor
  · rintro ⟨x, hx, hp⟩
    simp only [Bool.and_eq_true, beq_iff_eq] at hp
    have h1 := lget_mem hs hx
    have h2 := lget_mem hs he
    rw [hp.2, h2] at h1
    obtain rfl := Option.some.inj h1
    exact hp.1
  · intro hp
    exact ⟨e, he, by simp [hp]⟩
end Go.Proofs.Ytaijfgajcmopfaa.Pl
/- The document's index in memory. -/
set_option linter.unusedVariables false
namespace Go.Proofs.Ytaijfgajcmopfaa.Y1
open Go.RowKit Go.Shelf V Rh T W1 W2 W3 W4 W6 Rf X1 X4 X6 Pl

abbrev nilS : Value := .slice none 0 0

/-- the document's index at br: its rows' block ba, the rows' values vs -/
structure RIdx (w : World) (br ba : Nat) (vs : List Value) (most : Nat) (Ls : List (List Ent)) : Prop where
  head : ∃ cap, Ls.length ≤ cap ∧ Blk w br [.int .i64 most, .slice (some ⟨ba, 0, none⟩) Ls.length cap] 80
  row : ∃ rest, Blk w ba (vs ++ rest) 39
  len : vs.length = Ls.length
  pos : 1 ≤ Ls.length
  most64 : Ls.length ≤ 64
  own : ∀ i, i < Ls.length → w.ownsRow 0 27 4 (vs.getD i nilS) (Ls.getD i []).length (flat (Ls.getD i []))
  ne : br ≠ ba
  off : ∀ i, i < Ls.length → (vs.getD i nilS).ownBlock ≠ some br ∧ (vs.getD i nilS).ownBlock ≠ some ba
  apart : ∀ i j, i < Ls.length → j < Ls.length → i ≠ j → ∀ k, (vs.getD i nilS).ownBlock = some k → (vs.getD j nilS).ownBlock ≠ some k

def RFoot (br ba : Nat) (vs : List Value) : Nat → Prop := fun k => k = br ∨ k = ba ∨ ∃ i, i < vs.length ∧ (vs.getD i nilS).ownBlock = some k

section
variable {w : World} {br ba : Nat} {vs : List Value} {most : Nat} {Ls : List (List Ent)}

theorem RIdx.foot_lt (h : RIdx w br ba vs most Ls) : ∀ k, RFoot br ba vs k → k < w.heap.size := by
  rintro k (rfl | rfl | ⟨i, hi, hk⟩)
  · obtain ⟨_, _, hb⟩ := h.head; exact hb.lt
  · obtain ⟨_, hb⟩ := h.row; exact hb.lt
  · exact ((h.own i (by rw [← h.len]; exact hi)).lt k hk).2

theorem RIdx.keep {S : Nat → Prop} {w' : World} (h : RIdx w br ba vs most Ls) (m : Keep S w w') (hS : ∀ k, RFoot br ba vs k → ¬ S k) : RIdx w' br ba vs most Ls where
  head := let ⟨c, h1, hb⟩ := h.head; ⟨c, h1, hb.mod m (hS _ (.inl rfl))⟩
  row := let ⟨c, hb⟩ := h.row; ⟨c, hb.mod m (hS _ (.inr (.inl rfl)))⟩
  len := h.len
  pos := h.pos
  most64 := h.most64
  own := fun i hi => own_keep (h.own i hi) m (fun g hg => hS _ (.inr (.inr ⟨i, by rw [h.len]; exact hi, hg⟩)))
  ne := h.ne
  off := h.off
  apart := h.apart

theorem RIdx.at (h : RIdx w br ba vs most Ls) {i : Nat} (hi : i < Ls.length) : w.cell? ⟨ba, i, none⟩ = some (vs.getD i nilS) := by
  obtain ⟨rest, hb⟩ := h.row
  have h2 : i < vs.length := by rw [h.len]; exact hi
  rw [hb.cell, List.getElem?_append_left h2]
  simp [h2]

/-- a row laid anew, or written in its place -/
theorem RIdx.put (h : RIdx w br ba vs most Ls) {w' : World} {i : Nat} (hi : i < Ls.length) {v' : Value} {L' : List Ent} (m : Keep (fun k => k = ba ∨ (vs.getD i nilS).ownBlock = some k) w w') (hrow : ∃ rest, Blk w' ba (vs.set i v' ++ rest) 39)
    (hv : w'.ownsRow 0 27 4 v' L'.length (flat L')) (hf : ∀ k, v'.ownBlock = some k → (vs.getD i nilS).ownBlock = some k ∨ w.heap.size ≤ k) :
    RIdx w' br ba (vs.set i v') most (Ls.set i L') ∧ Keep (RFoot br ba vs) w w' ∧ ∀ k, RFoot br ba (vs.set i v') k → RFoot br ba vs k ∨ w.heap.size ≤ k := by
  have hlt := h.foot_lt
  have hi2 : i < vs.length := by rw [h.len]; exact hi
  have hset : ∀ j, j ≠ i → (vs.set i v').getD j nilS = vs.getD j nilS := fun j hj => by simp [List.getD_eq_getElem?_getD, Ne.symm hj]
  have hseti : (vs.set i v').getD i nilS = v' := by simp [hi2]
  have hLset : ∀ j, j ≠ i → (Ls.set i L').getD j [] = Ls.getD j [] := fun j hj => by simp [List.getD_eq_getElem?_getD, Ne.symm hj]
  have hLseti : (Ls.set i L').getD i [] = L' := by simp [hi]
  have hfi : ∀ k, (vs.getD i nilS).ownBlock = some k → RFoot br ba vs k := fun k hk => .inr (.inr ⟨i, hi2, hk⟩)
  have hbr : br < w.heap.size := hlt _ (.inl rfl)
  have hba : ba < w.heap.size := hlt _ (.inr (.inl rfl))
  refine ⟨⟨?_, hrow, by simp [h.len], by simp [h.pos], by simp [h.most64], ?_, h.ne, ?_, ?_⟩, ?_, ?_⟩
  · obtain ⟨c, h1, hb⟩ := h.head
    refine ⟨c, by simpa using h1, ?_⟩
    rw [List.length_set]
    exact hb.mod m (by rintro (e | e); exact h.ne e; exact (h.off i hi).1 e)
  · intro j hj
    rw [List.length_set] at hj
    by_cases hji : j = i
    · subst hji
      rw [hseti, hLseti]
      exact hv
    · rw [hset j hji, hLset j hji]
      refine own_keep (h.own j hj) m (fun g hg => ?_)
      rintro (e | e)
      · exact (h.off j hj).2 (by rw [hg, e])
      · exact h.apart j i hj hi hji g hg e
  · intro j hj
    rw [List.length_set] at hj
    by_cases hji : j = i
    · subst hji
      rw [hseti]
      constructor
      · intro e
        rcases hf _ e with e | e
        · exact (h.off j hj).1 e
        · omega
      · intro e
        rcases hf _ e with e | e
        · exact (h.off j hj).2 e
        · omega
    · rw [hset j hji]
      exact h.off j hj
  · intro p q hp hq hpq k hk
    rw [List.length_set] at hp hq
    by_cases hpi : p = i
    · subst hpi
      rw [hseti] at hk
      rw [hset q (Ne.symm hpq)]
      rcases hf _ hk with e | e
      · exact h.apart p q hp hq hpq k e
      · intro hk2
        have := hlt k (.inr (.inr ⟨q, by rw [h.len]; exact hq, hk2⟩))
        omega
    · rw [hset p hpi] at hk
      by_cases hqi : q = i
      · subst hqi
        rw [hseti]
        intro hk2
        rcases hf _ hk2 with e | e
        · exact h.apart p q hp hq hpq k hk e
        · have := hlt k (.inr (.inr ⟨p, by rw [h.len]; exact hp, hk⟩))
          omega
      · rw [hset q hqi]
        exact h.apart p q hp hq hpq k hk
  · refine m.mono ?_
    rintro k _ (rfl | e)
    · exact .inr (.inl rfl)
    · exact hfi k e
  · rintro k (rfl | rfl | ⟨j, hj, hk⟩)
    · exact .inl (.inl rfl)
    · exact .inl (.inr (.inl rfl))
    · rw [List.length_set] at hj
      by_cases hji : j = i
      · subst hji
        rw [hseti] at hk
        rcases hf _ hk with e | e
        · exact .inl (hfi k e)
        · exact .inr e
      · rw [hset j hji] at hk
        exact .inl (.inr (.inr ⟨j, hj, hk⟩))
end

def RHas (w : World) (p : Value) (most : Nat) (Ls : List (List Ent)) (F : Nat → Prop) : Prop := ∃ br ba vs, p = ptr br ∧ RIdx w br ba vs most Ls ∧ F = RFoot br ba vs
def RThen (w w' : World) (p : Value) (most : Nat) (Ls : List (List Ent)) (F : Nat → Prop) : Prop := Keep F w w' ∧ ∃ F', RHas w' p most Ls F' ∧ ∀ k, F' k → F k ∨ w.heap.size ≤ k

theorem RHas.lt {w : World} {p : Value} {most : Nat} {Ls : List (List Ent)} {F : Nat → Prop} (h : RHas w p most Ls F) : ∀ k, F k → k < w.heap.size := by
  obtain ⟨br, ba, vs, _, hX, rfl⟩ := h
  exact hX.foot_lt
theorem RHas.keep {w w' : World} {p : Value} {most : Nat} {Ls : List (List Ent)} {F S : Nat → Prop} (h : RHas w p most Ls F) (m : Keep S w w') (hS : ∀ k, F k → ¬ S k) : RHas w' p most Ls F := by
  obtain ⟨br, ba, vs, h1, hX, rfl⟩ := h
  exact ⟨br, ba, vs, h1, hX.keep m hS, rfl⟩
theorem RHas.stays {w w' : World} {p : Value} {most : Nat} {Ls : List (List Ent)} {F : Nat → Prop} (h : RHas w p most Ls F) (m : Keep No w w') : RThen w w' p most Ls F :=
  ⟨m.mono (fun _ _ e => e.elim), F, h.keep m (fun _ _ => no _), fun _ hk => .inl hk⟩

/-- what both indexes' lists are -/
def GoodL (most : Nat) (Ls : List (List Ent)) : Prop := most ≤ 16 ∧ ∀ i, i < Ls.length → Sorted (Ls.getD i []) ∧ (∀ e ∈ Ls.getD i [], e.ok ∧ e.full = true) ∧ 8 * (Ls.getD i []).length ≤ 7 * 2 ^ most
theorem GoodL.of {w : World} {p : Value} {most : Nat} {Ls : List (List Ent)} {F : Nat → Prop} (h : Has w p most Ls F) : GoodL most Ls := by
  obtain ⟨bx, bl, bts, bss, rfl, hX, rfl⟩ := h
  have hp := hX.pos
  obtain ⟨bits0, es0, _, hI0⟩ := hX.tabs 0 (by omega)
  refine ⟨hI0.m16, fun i hi => ?_⟩
  obtain ⟨bits, es, _, hI⟩ := hX.tabs i hi
  refine ⟨hI.sorted, hI.ok, ?_⟩
  have h1 := hI.room
  have h3 : 2 ^ bits ≤ 2 ^ most := Nat.pow_le_pow_right (by decide) hI.bm
  omega
end Go.Proofs.Ytaijfgajcmopfaa.Y1
/- The document's index: Stripe, Find. -/
set_option linter.unusedVariables false
namespace Go.Proofs.Ytaijfgajcmopfaa.Y2
open Go.RowKit Go.Shelf V Rh T W1 W2 W3 W4 W6 Rf X1 X4 X6 Pl Y1

theorem rstripe_any (br ba most n cap : Nat) (h : Int) (w : World) (hb : Blk w br [.int .i64 most, .slice (some ⟨ba, 0, none⟩) n cap] 80) (hn : 1 ≤ n) (hn2 : n ≤ 64) (hh : 0 ≤ h) (hh2 : h < 18446744073709551616) :
    Calls Try.prog 34 #[ptr br, .int .u64 h] w fun e w' => e = .returned (.int .i64 (stripeI n h : Nat)) ∧ w = w' := by
  have hne : ((n : Int) == 0) = false := beq_eq_false_iff_ne.2 (by omega)
  have hlt := stripeI_lt hn h
  have hm2 := Int.emod_nonneg h (show (n : Int) ≠ 0 by omega)
  have hm3 := Int.emod_lt_of_pos h (show (0 : Int) < n by omega)
  have E2 : Hid (h % (n : Int) = (stripeI n h : Nat)) := by
    show _ = _
    unfold stripeI
    omega
  obtain ⟨z0, c0, c1, f0⟩ := hb.two
  clear hb hlt
  unfold ptr at *
  go_enter Try.func34, Try.ntmps34
  go_wp2
  go_ret
  exact ⟨ret_int E2.out, rfl⟩

theorem row_form {w : World} {v : Value} {L : List Ent} (h : w.ownsRow 0 27 4 v L.length (flat L)) : ∃ a cap, v = .slice a L.length cap ∧ L.length ≤ cap ∧ (L = [] ∨ ∃ g rest, a = some ⟨g, 0, none⟩ ∧ Blk w g (flat L ++ rest) 27) := by
  by_cases hv : v = .slice none 0 0
  · subst hv
    rcases h.2 with ⟨_, h2⟩ | ⟨g, cap, cur, h1, _⟩
    · have : L = [] := List.eq_nil_of_length_eq_zero h2
      subst this
      exact ⟨none, 0, rfl, Nat.le_refl _, .inl rfl⟩
    · cases h1
  · obtain ⟨g, cap, rest, rfl, _, hn, hc, hb, _⟩ := own_blk h hv
    exact ⟨_, cap, rfl, hn, .inr ⟨g, rest, rfl, hb⟩⟩

set_option maxRecDepth 100000 in
set_option maxHeartbeats 1000000 in
theorem rfind_any (br ba most : Nat) (vs : List Value) (Ls : List (List Ent)) (h : Int) (w : World) (hX : RIdx w br ba vs most Ls) (hG : GoodL most Ls) (hh : 0 ≤ h) (hh2 : h < 18446744073709551616) :
    Calls Try.prog 59 #[ptr br, .int .u64 h] w fun e w' => e = .returned (.tuple #[.int .i64 (stripeI Ls.length h : Nat), .int .i64 (posL h (sOf h Ls) : Nat), .bool (lget h (sOf h Ls)).isSome]) ∧ Keep No w w' := by
  obtain ⟨cap, hcap, hb⟩ := hX.head
  have hsi := stripeI_lt hX.pos h
  have hst := fun W (hW : Keep No w W) => rstripe_any br ba most Ls.length cap h W (hb.mod hW (no _)) hX.pos hX.most64 hh hh2
  have hat := hX.at hsi
  obtain ⟨hs, hok, hroom⟩ := hG.2 _ hsi
  have hrow := hX.own _ hsi
  obtain ⟨a, rcap, hv, hrc, hform⟩ := row_form hrow
  rw [hv] at hat
  have hl64 := hX.most64
  have h16 := hG.1
  have hLn : (Ls.getD (stripeI Ls.length h) []).length ≤ 65536 := by have : 2 ^ most ≤ 65536 := pow_le16 h16; omega
  unfold sOf
  clear hv hrow hX hG hroom
  have h0 : 0 ≤ ((stripeI Ls.length h : Nat) : Int) := by omega
  have h1 : ((stripeI Ls.length h : Nat) : Int) < Ls.length := by omega
  have h2 : stripeI Ls.length h < cap := by omega
  generalize Ls.getD (stripeI Ls.length h) [] = L at *
  generalize stripeI Ls.length h = s at *
  obtain ⟨z0, c0, c1, f0⟩ := hb.two
  have HB := hid hb
  have HS := hid hs
  have HAT := hid hat
  have HF := hid hform
  have HOK := hid hok
  have HLN := hid hLn
  clear hb hs hform hok hcap
  unfold ptr at *
  have hn0 : (0 : Int) ≤ (L.length : Int) := by omega
  go_enter Try.func59, Try.ntmps59
  go_wp2_with (go_at_call 34; refine (hst _ (Keep.refl _ _)).mono ?_; rintro e w' ⟨rfl, rfl⟩)
  go_loopw [21] (fun i wr => ∃ k : Nat, i = .int .i64 k ∧ k ≤ L.length ∧ Keep No w wr ∧ Hid (∀ j, j < k → (gt L j).h < h)) (fun i _ => L.length - (intOf i).toNat)
  case atStart => exact ⟨0, rfl, Nat.zero_le _, Keep.refl _ _, fun j hj => absurd hj (Nat.not_lt_zero _)⟩
  case round =>
    obtain ⟨k, rfl, hk, hK, hlow⟩ := hrel
    obtain ⟨z1, d0, d1, g0⟩ := (HB.out.mod hK (no _)).two
    have hatr : wr.cell? ⟨ba, s, none⟩ = some (.slice a L.length rcap) := (World.cell?_of_block (hK.block ba (cell_lt hat) (no _))).trans hat
    have HK := hid hK
    clear hK
    by_cases hkl : k < L.length
    · obtain ⟨g, rest, rfl, hbg⟩ := HF.out.resolve_left (fun e => by rw [e] at hkl; exact absurd hkl (Nat.not_lt_zero _))
      have hbr := hbg.mod HK.out (no _)
      obtain ⟨s0, s1, s2, s3⟩ := slot hbr hkl
      have hk0 : (0 : Int) ≤ k := by omega
      have hk1 : (k : Int) < L.length := by omega
      clear hbg hbr hat
      by_cases hle : h ≤ (gt L k).h
      · have hd : decide (h ≤ (gt L k).h) = true := by simpa using hle
        have hp : posL h L = k := posL_eq hlow.out hk (fun _ => hle)
        have hf : ((gt L k).h == h) = (lget h L).isSome := by
          rw [lget_pos HS.out, hp]
          by_cases he : (gt L k).h = h
          · simp [hkl, he]
          · simp [hkl, he]
        have HP := hid hp
        have HFD := hid hf
        clear hp hf hle
        go_wp2
        go_quiet (fail)
        go_wp2
        refine bodyPost_ret (results_tmp3 rfl _ _ _) rfl ⟨?_, ((HK.out.alloc _).drewN _)⟩
        rw [HP.out, ← HFD.out]
        rfl
      · have hd : decide (h ≤ (gt L k).h) = false := by simpa using hle
        have hlow2 : Hid (∀ j, j < k + 1 → (gt L j).h < h) := fun j hj => by
          by_cases hjk : j = k
          · subst hjk; omega
          · exact hlow.out j (by omega)
        clear hle
        go_wp2
        exact ⟨⟨k + 1, by go_num, hkl, HK.out.alloc _, hlow2⟩, by simp [intOf]; omega⟩
    · have hke : k = L.length := by omega
      subst hke
      have hp : posL h L = L.length := posL_eq hlow.out hk (fun hc => absurd hc hkl)
      have hf : (lget h L).isSome = false := by
        rw [lget_pos HS.out, hp]
        simp
      have HP := hid hp
      have HFD := hid hf
      clear hp hf
      go_wp2
      go_quiet (fail)
      go_wp2
      refine bodyPost_ret (results_tmp3 rfl _ _ _) rfl ⟨?_, (HK.out.drewN _)⟩
      rw [HP.out, HFD.out]
      rfl
end Go.Proofs.Ytaijfgajcmopfaa.Y2
/- The document's index: Get, Len, Hit, Move, RemoveIf. -/
set_option linter.unusedVariables false
namespace Go.Proofs.Ytaijfgajcmopfaa.Y3
open Go.RowKit Go.Shelf V Rh T W1 W2 W3 W4 W6 Rf X1 X2 X4 X6 Pl Y1 Y2

/-- what a walk reads of row s -/
theorem RIdx.open {w : World} {br ba : Nat} {vs : List Value} {most : Nat} {Ls : List (List Ent)} (hX : RIdx w br ba vs most Ls) {s : Nat} (hs : s < Ls.length) :
    ∃ cap a rcap, s < cap ∧ br < w.heap.size ∧ w.cell? ⟨br, 0, none⟩ = some (.int .i64 most) ∧ w.cell? ⟨br, 1, none⟩ = some (.slice (some ⟨ba, 0, none⟩) Ls.length cap) ∧ (∀ i, w.frozen? ⟨br, i, none⟩ = false) ∧ ba < w.heap.size ∧ (∀ i, w.frozen? ⟨ba, i, none⟩ = false) ∧
      vs.getD s nilS = .slice a (Ls.getD s []).length rcap ∧ w.cell? ⟨ba, s, none⟩ = some (.slice a (Ls.getD s []).length rcap) ∧ (Ls.getD s []).length ≤ rcap ∧ (Ls.getD s [] = [] ∨ ∃ g rest, a = some ⟨g, 0, none⟩ ∧ Blk w g (flat (Ls.getD s []) ++ rest) 27) := by
  obtain ⟨cap, hcap, hb⟩ := hX.head
  obtain ⟨rest, hbr⟩ := hX.row
  obtain ⟨z0, c0, c1, f0⟩ := hb.two
  obtain ⟨a, rcap, hv, hrc, hform⟩ := row_form (hX.own _ hs)
  have hat := hX.at hs
  rw [hv] at hat
  exact ⟨cap, a, rcap, by omega, z0, c0, c1, f0, hbr.lt, hbr.frozen, hv, hat, hrc, hform⟩

section
variable {w : World} {br ba most : Nat} {vs : List Value} {Ls : List (List Ent)}

theorem GoodL.small (hG : GoodL most Ls) {s : Nat} (hs : s < Ls.length) : (Ls.getD s []).length ≤ 65536 := by
  have h1 := (hG.2 s hs).2.2
  have h16 := hG.1
  have : 2 ^ most ≤ 65536 := pow_le16 h16
  omega

set_option maxRecDepth 100000 in
set_option maxHeartbeats 1000000 in
theorem rget_any (hX : RIdx w br ba vs most Ls) (hG : GoodL most Ls) (h : Int) (hh : 0 ≤ h) (hh2 : h < 18446744073709551616) :
    Calls Try.prog 33 #[ptr br, .int .u64 h] w fun e w' => e = .returned (.tuple #[valE ((xget h Ls).getD z), .bool (xget h Ls).isSome]) ∧ Keep No w w' := by
  have hfind : ∀ W, Keep No w W → _ := fun W (hW : Keep No w W) => rfind_any br ba most vs Ls h W (hX.keep hW (fun _ _ => no _)) hG hh hh2
  have hsi := stripeI_lt hX.pos h
  have hs := (hG.2 _ hsi).1
  have hsm := GoodL.small hG hsi
  have HX := hid hX
  have HB : Hid (Blk (w.alloc (.cells #[.int .u64 0, .int .u64 0, .int .u64 0, .int .u8 0] 27)) w.heap.size [.int .u64 0, .int .u64 0, .int .u64 0, .int .u8 0] 27) := Blk.new' _ rfl
  have hg : xget h Ls = lget h (sOf h Ls) := rfl
  rw [hg]
  have hp := lget_pos (h := h) hs
  change lget h (sOf h Ls) = if posL h (sOf h Ls) < (sOf h Ls).length ∧ (gt (sOf h Ls) (posL h (sOf h Ls))).h = h then some (gt (sOf h Ls) (posL h (sOf h Ls))) else none at hp
  cases hl : lget h (sOf h Ls) with
  | none =>
    rw [hl] at hfind
    clear hp hX hs hl
    simp only [Option.isSome_none] at hfind
    unfold ptr at *
    go_enter Try.func33, Try.ntmps33
    go_wp2_with (go_at_call 59; refine (hfind _ ((Keep.refl _ _).alloc _)).mono ?_; rintro e w1 ⟨rfl, hk⟩; have hk1 := hid (Keep.trans ((Keep.refl No w).alloc _) hk (fun _ _ h => h)); have hd := hid (HB.out.mod hk (no _)); obtain ⟨q0, b0, b1, b2, b3, g0⟩ := hd.out.four; clear hk)
    exact bodyPost_ret (res_eu (e := z) rfl _ rfl rfl (Blk.setE hd.out z)) rfl ⟨rfl, hk1.out.set4 (fun h => absurd h (by omega)) _ _ _ _ _ _ _ _⟩
  | some o =>
    rw [hl] at hp hfind
    split at hp
    · rename_i hc
      obtain ⟨hc1, hc2⟩ := hc
      have ho : gt (sOf h Ls) (posL h (sOf h Ls)) = o := by simpa using hp.symm
      have HOP : Hid (∀ W, Keep No w W → _) := fun W (hW : Keep No w W) => RIdx.open (HX.out.keep hW (fun _ _ => no _)) hsi
      change Hid (∀ W, Keep No w W → ∃ cap a rcap, stripeI Ls.length h < cap ∧ br < W.heap.size ∧ W.cell? ⟨br, 0, none⟩ = some (.int .i64 most) ∧ W.cell? ⟨br, 1, none⟩ = some (.slice (some ⟨ba, 0, none⟩) Ls.length cap) ∧ (∀ i, W.frozen? ⟨br, i, none⟩ = false) ∧ ba < W.heap.size ∧ (∀ i, W.frozen? ⟨ba, i, none⟩ = false) ∧
        vs.getD (stripeI Ls.length h) nilS = .slice a (sOf h Ls).length rcap ∧ W.cell? ⟨ba, stripeI Ls.length h, none⟩ = some (.slice a (sOf h Ls).length rcap) ∧ (sOf h Ls).length ≤ rcap ∧ (sOf h Ls = [] ∨ ∃ g rest, a = some ⟨g, 0, none⟩ ∧ Blk W g (flat (sOf h Ls) ++ rest) 27)) at HOP
      have i0 : (0 : Int) ≤ (stripeI Ls.length h : Nat) := by omega
      have i1 : ((stripeI Ls.length h : Nat) : Int) < Ls.length := by omega
      have i2 : (0 : Int) ≤ (posL h (sOf h Ls) : Nat) := by omega
      have i3 : ((posL h (sOf h Ls) : Nat) : Int) < (sOf h Ls).length := by omega
      have HO := hid ho
      simp only [Option.isSome_some] at hfind
      clear hp hX hs hl ho hc2 hsm hg
      generalize posL h (sOf h Ls) = p at *
      generalize sOf h Ls = L at *
      generalize stripeI Ls.length h = s at *
      unfold ptr at *
      go_enter Try.func33, Try.ntmps33
      go_wp2_with (go_at_call 59; refine (hfind _ ((Keep.refl _ _).alloc _)).mono ?_; rintro e w1 ⟨rfl, hk⟩; have hk1 := hid (Keep.trans ((Keep.refl No w).alloc _) hk (fun _ _ h => h)); have hd := hid (HB.out.mod hk (no _)); obtain ⟨q0, b0, b1, b2, b3, g0⟩ := hd.out.four; obtain ⟨cap, a, rcap, y0, y1, y2, y3, y4, y5, y6, _, y7, y8, y9⟩ := HOP.out _ hk1.out; obtain ⟨g, rest, rfl, hbg⟩ := y9.resolve_left (fun e => by rw [e] at hc1; exact absurd hc1 (Nat.not_lt_zero _)); obtain ⟨s0, s1, s2, s3⟩ := slot hbg hc1; clear hk hbg y9)
      exact bodyPost_ret (res_eu (e := gt L p) rfl _ rfl rfl (Blk.setE hd.out (gt L p))) rfl ⟨by rw [HO.out]; rfl, hk1.out.set4 (fun h => absurd h (by omega)) _ _ _ _ _ _ _ _⟩
    · cases hp
end
end Go.Proofs.Ytaijfgajcmopfaa.Y3
/- The document's index: New, Len, Hit, Move. -/
set_option linter.unusedVariables false
namespace Go.Proofs.Ytaijfgajcmopfaa.Y4
open Go.RowKit Go.Shelf V Rh T W1 W2 W3 W4 W6 Rf X1 X2 X4 X5 X6 Pl Y1 Y2 Y3

/-- what a walk reads of row s -/
def Opn (W : World) (br ba most n s : Nat) (v : Value) (L : List Ent) : Prop :=
  ∃ cap, s < cap ∧ br < W.heap.size ∧ W.cell? ⟨br, 0, none⟩ = some (.int .i64 most) ∧ W.cell? ⟨br, 1, none⟩ = some (.slice (some ⟨ba, 0, none⟩) n cap) ∧ (∀ i, W.frozen? ⟨br, i, none⟩ = false) ∧ ba < W.heap.size ∧ (∀ i, W.frozen? ⟨ba, i, none⟩ = false) ∧ W.cell? ⟨ba, s, none⟩ = some v ∧
    ((v = nilS ∧ L = []) ∨ ∃ g rcap rest, v = .slice (some ⟨g, 0, none⟩) L.length rcap ∧ L.length ≤ rcap ∧ rcap ≤ 9223372036854775807 ∧ Blk W g (flat L ++ rest) 27 ∧ g ≠ br ∧ g ≠ ba ∧ br ≠ g ∧ ba ≠ g)

theorem flat_inj_len {L : List Ent} {k : Nat} (h : (flat L).length = k * 4) : L.length = k := by rw [flat_length] at h; omega

section
variable {w : World} {br ba most : Nat} {vs : List Value} {Ls : List (List Ent)}

theorem RIdx.opn (hX : RIdx w br ba vs most Ls) {s : Nat} (hs : s < Ls.length) : Opn w br ba most Ls.length s (vs.getD s nilS) (Ls.getD s []) := by
  obtain ⟨cap, hcap, hb⟩ := hX.head
  obtain ⟨rest, hbr⟩ := hX.row
  obtain ⟨z0, c0, c1, f0⟩ := hb.two
  refine ⟨cap, by omega, z0, c0, c1, f0, hbr.lt, hbr.frozen, hX.at hs, ?_⟩
  have ho := hX.own s hs
  by_cases hv : vs.getD s nilS = nilS
  · left
    rw [hv] at ho ⊢
    rcases ho.2 with ⟨_, h2⟩ | ⟨g, cap, cur, h1, _⟩
    · exact ⟨rfl, List.eq_nil_of_length_eq_zero h2⟩
    · cases h1
  · right
    obtain ⟨g, rcap, rest, hg, _, hn, hc, hb, _⟩ := own_blk ho hv
    have h1 := (hX.off s hs).1
    have h2 := (hX.off s hs).2
    rw [hg] at h1 h2
    simp only [Value.ownBlock, ne_eq, Option.some.injEq] at h1 h2
    exact ⟨g, rcap, rest, hg, hn, hc, hb, h1, h2, fun e => h1 e.symm, fun e => h2 e.symm⟩

/-- row s written in its place -/
theorem RIdx.write (hX : RIdx w br ba vs most Ls) {s : Nat} (hs : s < Ls.length) {g rcap : Nat} {rest : List Value} {L' : List Ent} {w' : World} (hv : vs.getD s nilS = .slice (some ⟨g, 0, none⟩) (Ls.getD s []).length rcap)
    (hb : Blk w g (flat (Ls.getD s []) ++ rest) 27) (hk : Keep (fun k => k = g) w w') (hb' : Blk w' g (flat L' ++ rest) 27) (hl : L'.length = (Ls.getD s []).length) :
    RThen w w' (ptr br) most (Ls.set s L') (RFoot br ba vs) := by
  have hown : (vs.getD s nilS).ownBlock = some g := by rw [hv]; rfl
  have hne := (hX.off s hs).2
  obtain ⟨rr, hrow⟩ := hX.row
  have hset : vs.set s (vs.getD s nilS) = vs := by
    have : s < vs.length := by rw [hX.len]; exact hs
    simp [this]
  have hlen : (flat L').length = (flat (Ls.getD s [])).length := by rw [flat_length, flat_length, hl]
  have ho := hX.own s hs
  have hv' : w'.ownsRow 0 27 4 (vs.getD s nilS) L'.length (flat L') := by
    refine ⟨by rw [flat_length]; omega, .inr ?_⟩
    rcases ho.2 with ⟨hn, _⟩ | ⟨g2, cap2, cur, he, hb0, hg, hc1, hc2, hc3, hc4⟩
    · rw [hv] at hn; cases hn
    · have he2 := hv.symm.trans he
      simp only [Value.slice.injEq, Option.some.injEq, Addr.mk.injEq] at he2
      obtain ⟨⟨rfl, _⟩, _, rfl⟩ := he2
      have hcur : cur = (flat (Ls.getD s []) ++ rest).toArray := by
        unfold Blk at hb
        rw [hb] at hg
        simp only [Option.some.injEq, Obj.cells.injEq] at hg
        exact hg.1.symm
      refine ⟨g, rcap, (flat L' ++ rest).toArray, by rw [hl]; exact hv, Nat.zero_le _, hb', by rw [hl]; exact hc1, hc2, ?_, ?_⟩
      · rw [hcur] at hc3
        simp only [List.size_toArray, List.length_append] at hc3 ⊢
        omega
      · exact List.take_left' (by rw [flat_length]; omega)
  obtain ⟨h1, h2, h3⟩ := hX.put (w' := w') hs (v' := vs.getD s nilS) (L' := L') (hk.mono (fun k _ e => .inr (by rw [hown, e]))) ⟨rr, by rw [hset]; exact hrow.mod hk (fun e => hne (by rw [hown, e]))⟩ hv' (fun k hk => .inl hk)
  rw [hset] at h1 h3
  exact ⟨h2, _, ⟨_, _, _, rfl, h1, rfl⟩, h3⟩

/-- row s laid anew, the row's block at or above 'base'; cells of the call's own are written behind it -/
theorem RIdx.newrowB (hX : RIdx w br ba vs most Ls) {s : Nat} (hs : s < Ls.length) {v' : Value} {L' : List Ent} {w1 w' : World} {base : Nat} {X : Nat → Prop} (hk : Keep No w w1) (hbase : w.heap.size ≤ base) (hv : w1.ownsRow base 27 4 v' L'.length (flat L'))
    (hX2 : Keep X (w1.setCell ⟨ba, s, none⟩ v') w') (hXl : ∀ k, X k → w.heap.size ≤ k ∧ k < base) :
    RThen w w' (ptr br) most (Ls.set s L') (RFoot br ba vs) := by
  obtain ⟨rr, hrow⟩ := hX.row
  have hba := hrow.lt
  have hs2 : s < vs.length := by rw [hX.len]; exact hs
  have hrow2 := (hrow.mod hk (no _)).set s v'
  rw [List.set_append_left _ _ hs2] at hrow2
  have hk2 : Keep (fun k => k = ba) w1 (w1.setCell ⟨ba, s, none⟩ v') := (Keep.refl _ _).setCell _ _ (fun _ => rfl)
  have hk3 : Keep (fun k => k = ba ∨ (vs.getD s nilS).ownBlock = some k) w (w1.setCell ⟨ba, s, none⟩ v') := (hk.mono (fun _ _ e => e.elim)).trans (hk2.mono (fun _ _ e => .inl e)) (fun _ _ e => e)
  obtain ⟨h1, h2, h3⟩ := hX.put hs hk3 ⟨rr, hrow2⟩ (own_base (own_keep hv hk2 (fun g hg e => by have := (hv.lt g hg).1; omega)) (Nat.zero_le _)) (fun k hk => .inr (Nat.le_trans hbase (hv.lt k hk).1))
  have hF : ∀ k, RFoot br ba (vs.set s v') k → ¬ X k := by
    rintro k (rfl | rfl | ⟨j, hj, hk⟩) hx
    · have := hX.foot_lt _ (.inl rfl); have := hXl _ hx; omega
    · have := hXl _ hx; omega
    · have hx' := hXl _ hx
      by_cases hjs : j = s
      · subst hjs
        rw [show (vs.set j v').getD j nilS = v' by simp [hs2]] at hk
        have := (hv.lt k hk).1
        omega
      · rw [show (vs.set s v').getD j nilS = vs.getD j nilS by simp [List.getD_eq_getElem?_getD, Ne.symm hjs]] at hk
        rw [List.length_set] at hj
        have := hX.foot_lt k (.inr (.inr ⟨j, hj, hk⟩))
        omega
  exact ⟨h2.trans hX2 (fun k hk hx => by have := hXl k hx; omega), _, ⟨_, _, _, rfl, h1.keep hX2 hF, rfl⟩, h3⟩

/-- row s laid anew -/
theorem RIdx.newrow (hX : RIdx w br ba vs most Ls) {s : Nat} (hs : s < Ls.length) {v' : Value} {L' : List Ent} {w1 : World} (hk : Keep No w w1) (hv : w1.ownsRow w.heap.size 27 4 v' L'.length (flat L')) :
    RThen w (w1.setCell ⟨ba, s, none⟩ v') (ptr br) most (Ls.set s L') (RFoot br ba vs) := by
  obtain ⟨rr, hrow⟩ := hX.row
  have hba := hrow.lt
  have hs2 : s < vs.length := by rw [hX.len]; exact hs
  have hrow2 := (hrow.mod hk (no _)).set s v'
  rw [List.set_append_left _ _ hs2] at hrow2
  have hk2 : Keep (fun k => k = ba) w1 (w1.setCell ⟨ba, s, none⟩ v') := (Keep.refl _ _).setCell _ _ (fun _ => rfl)
  have hk3 : Keep (fun k => k = ba ∨ (vs.getD s nilS).ownBlock = some k) w (w1.setCell ⟨ba, s, none⟩ v') := (hk.mono (fun _ _ e => e.elim)).trans (hk2.mono (fun _ _ e => .inl e)) (fun _ _ e => e)
  obtain ⟨h1, h2, h3⟩ := hX.put hs hk3 ⟨rr, hrow2⟩ (own_base (own_keep hv hk2 (fun g hg e => by have := (hv.lt g hg).1; omega)) (Nat.zero_le _)) (fun k hk => .inr (hv.lt k hk).1)
  exact ⟨h2, _, ⟨_, _, _, rfl, h1, rfl⟩, h3⟩

theorem RThen.after {w w1 w' : World} {p : Value} {most : Nat} {Ls : List (List Ent)} {F : Nat → Prop} (hk : Keep No w w1) (h : RThen w1 w' p most Ls F) : RThen w w' p most Ls F := by
  obtain ⟨h1, F', h2, h3⟩ := h
  exact ⟨(hk.mono (fun _ _ e => e.elim)).trans h1 (fun _ _ e => e), F', h2, fun k hk2 => (h3 k hk2).imp id (fun h => Nat.le_trans hk.size h)⟩

theorem xset_self {h : Int} {Ls : List (List Ent)} : xset h (sOf h Ls) Ls = Ls := by
  unfold xset sOf
  by_cases hi : stripeI Ls.length h < Ls.length
  · simp [hi]
  · rw [List.set_eq_of_length_le (by omega)]

/-- what a call of the document's index finds -/
structure Setup (w : World) (br ba most : Nat) (vs : List Value) (Ls : List (List Ent)) (h : Int) (s p n : Nat) (v : Value) (L : List Ent) : Prop where
  hs : s < n
  hp : p ≤ L.length
  small : L.length ≤ 65536
  n64 : n ≤ 64
  m16 : most ≤ 16
  sorted : Sorted L
  ok : ∀ e ∈ L, e.ok ∧ e.full = true
  find : ∀ W, Keep No w W → Calls Try.prog 59 #[.pointer (some ⟨br, 0, none⟩), .int .u64 h] W fun e w' => e = .returned (.tuple #[.int .i64 s, .int .i64 p, .bool (lget h L).isSome]) ∧ Keep No W w'
  opn : ∀ W, Keep No w W → Opn W br ba most n s v L
  stays : ∀ W, Keep No w W → RThen w W (ptr br) most Ls (RFoot br ba vs)
  write : ∀ w1 w' g rcap rest L', Keep No w w1 → v = .slice (some ⟨g, 0, none⟩) L.length rcap → Blk w1 g (flat L ++ rest) 27 → Keep (fun k => k = g) w1 w' → Blk w' g (flat L' ++ rest) 27 → L'.length = L.length → RThen w w' (ptr br) most (xset h L' Ls) (RFoot br ba vs)
  newrow : ∀ w1 v' L', Keep No w w1 → w1.ownsRow w.heap.size 27 4 v' L'.length (flat L') → RThen w (w1.setCell ⟨ba, s, none⟩ v') (ptr br) most (xset h L' Ls) (RFoot br ba vs)
  newrowB : ∀ w1 w' v' L' base (X : Nat → Prop), Keep No w w1 → w.heap.size ≤ base → w1.ownsRow base 27 4 v' L'.length (flat L') → Keep X (w1.setCell ⟨ba, s, none⟩ v') w' → (∀ k, X k → w.heap.size ≤ k ∧ k < base) → RThen w w' (ptr br) most (xset h L' Ls) (RFoot br ba vs)
  found : ∀ o, lget h L = some o → p < L.length ∧ gt L p = o
  bound : ba < w.heap.size ∧ br < w.heap.size
  pos : p = posL h L
  list : sOf h Ls = L

theorem RIdx.setup (hX : RIdx w br ba vs most Ls) (hG : GoodL most Ls) (h : Int) (hh : 0 ≤ h) (hh2 : h < 18446744073709551616) : ∃ s p n v L, Setup w br ba most vs Ls h s p n v L := by
  have hsi := stripeI_lt hX.pos h
  obtain ⟨hs, hok, hroom⟩ := hG.2 _ hsi
  have hkeep : ∀ W, Keep No w W → RIdx W br ba vs most Ls := fun W hW => hX.keep hW (fun _ _ => no _)
  refine ⟨stripeI Ls.length h, posL h (sOf h Ls), Ls.length, vs.getD (stripeI Ls.length h) nilS, sOf h Ls, hsi, posL_le _ _, GoodL.small hG hsi, hX.most64, hG.1, hs, hok, fun W hW => rfind_any br ba most vs Ls h W (hkeep W hW) hG hh hh2, fun W hW => RIdx.opn (hkeep W hW) hsi,
    fun W hW => RHas.stays ⟨_, _, _, rfl, hX, rfl⟩ hW, fun w1 w' g rcap rest L' h1 h2 h3 h4 h5 h6 => RThen.after h1 (RIdx.write (hkeep w1 h1) hsi h2 h3 h4 h5 h6), fun w1 v' L' h1 h2 => RIdx.newrow hX hsi h1 h2, fun w1 w' v' L' base X h1 h2 h3 h4 h5 => RIdx.newrowB hX hsi h1 h2 h3 h4 h5, ?_, ⟨hX.foot_lt _ (.inr (.inl rfl)), hX.foot_lt _ (.inl rfl)⟩, rfl, rfl⟩
  intro o ho
  have h1 := lget_pos (h := h) hs
  change lget h (sOf h Ls) = if posL h (sOf h Ls) < (sOf h Ls).length ∧ (gt (sOf h Ls) (posL h (sOf h Ls))).h = h then some (gt (sOf h Ls) (posL h (sOf h Ls))) else none at h1
  rw [ho] at h1
  split at h1
  · rename_i hc
    exact ⟨hc.1, by simpa using h1.symm⟩
  · cases h1
end
end Go.Proofs.Ytaijfgajcmopfaa.Y4
/- The document's index: Hit, Move, RemoveIf. -/
set_option linter.unusedVariables false
namespace Go.Proofs.Ytaijfgajcmopfaa.Y5
open Go.RowKit Go.Shelf V Rh T W1 W2 W3 W4 W6 Rf X1 X2 X4 X5 X6 Pl Y1 Y2 Y3 Y4

theorem set_a {es : List Ent} {i : Nat} (hi : i < es.length) (x : Int) : (flat es).set (i * 4 + 1) (.int .u64 x) = flat (es.set i { gt es i with a := x }) := by
  rw [← flat_set hi]
  have h0 := flat_at hi 0 (by omega)
  have h2 := flat_at hi 2 (by omega)
  have h3 := flat_at hi 3 (by omega)
  have hl := flat_length es
  apply List.ext_getElem?
  intro k
  simp only [List.getElem?_set, List.length_set]
  by_cases k0 : i * 4 = k
  · subst k0
    simp [cellsE] at h0
    simp
    split <;> first | omega | (rw [h0])
  · by_cases k2 : i * 4 + 2 = k
    · subst k2
      simp [cellsE] at h2
      simp
      split <;> first | omega | (rw [h2])
    · by_cases k3 : i * 4 + 3 = k
      · subst k3
        simp [cellsE] at h3
        simp
        split <;> first | omega | (rw [h3])
      · simp [k0, k2, k3]

section
variable {w : World} {br ba most : Nat} {vs : List Value} {Ls : List (List Ent)}

set_option maxRecDepth 100000 in
set_option maxHeartbeats 1000000 in
theorem rhit_any (hX : RIdx w br ba vs most Ls) (hG : GoodL most Ls) (h : Int) (hh : 0 ≤ h) (hh2 : h < 18446744073709551616) :
    Calls Try.prog 38 #[ptr br, .int .u64 h] w fun e w' => e = .returned (.bool (xget h Ls).isSome) ∧ RThen w w' (ptr br) most (xhit h Ls) (RFoot br ba vs) := by
  obtain ⟨s, p, n, v, L, S⟩ := Y4.RIdx.setup hX hG h hh hh2
  have hg : xget h Ls = lget h L := by unfold xget; rw [S.list]
  rw [hg]
  have hxh : xhit h Ls = xset h (hitL h L) Ls := by unfold xhit; rw [S.list]
  have hfind := S.find
  have HS := hid S
  cases hl : lget h L with
  | none =>
    have hx : xhit h Ls = Ls := by rw [hxh]; unfold hitL; rw [hl]; have := S.list; subst this; exact xset_self
    rw [hx]
    rw [hl] at hfind
    simp only [Option.isSome_none] at hfind
    clear S hg hxh hl hx hX
    unfold ptr
    go_enter Try.func38, Try.ntmps38
    go_wp2_with (go_at_call 59; refine (hfind _ (Keep.refl _ _)).mono ?_; rintro e w1 ⟨rfl, hk⟩; have HK := hid hk; clear hk)
    go_ret
    exact ⟨rfl, HS.out.stays _ HK.out⟩
  | some o =>
    rw [hl] at hfind
    obtain ⟨hpl, ho⟩ := S.found o hl
    have hset : hitL h L = L.set p (hitE o) := by rw [hitL_set S.sorted hl, ← S.pos]
    have HX : Hid (xhit h Ls = xset h (L.set p (hitE o)) Ls) := by show _ = _; rw [hxh, hset]
    have hm := (lget_some hl).1
    obtain ⟨_, _, _, _, _, _, ok1, ok2⟩ := (S.ok o hm).1
    have i0 : (0 : Int) ≤ (s : Nat) := by omega
    have i1 : (s : Int) < n := by have := S.hs; omega
    have i2 : (0 : Int) ≤ (p : Nat) := by omega
    have i3 : (p : Int) < L.length := by omega
    have HO := hid ho
    simp only [Option.isSome_some] at hfind
    clear S hg hxh hl hset hm hX ho
    by_cases hc : o.c < 255
    · have hcd : decide (o.c < 255) = true := by simpa using hc
      have HE : Hid (hitE o = { o with c := o.c + 1 }) := by show _ = _; unfold hitE; rw [if_pos hc]
      have HM : Hid ((o.c + 1) % 256 = o.c + 1) := by show _ = _; omega
      clear hc
      unfold ptr
      go_enter Try.func38, Try.ntmps38
      go_wp2_with (go_at_call 59; refine (hfind _ (Keep.refl _ _)).mono ?_; rintro e w1 ⟨rfl, hk⟩; have HK := hid hk; obtain ⟨cap, y0, y1, y2, y3, y4, y5, y6, y7, y9⟩ := HS.out.opn _ hk; obtain ⟨g, rcap, rest, rfl, y10, y11, hbg, y12, y13, y14, y15⟩ := y9.resolve_left (fun e => by rw [e.2] at hpl; exact absurd hpl (Nat.not_lt_zero _)); obtain ⟨s0, s1, s2, s3⟩ := slot hbg hpl; rw [HO.out] at s0 s1 s2 s3; have hfr := hbg.frozen; have hgl := hbg.lt; have HBG := hid hbg; clear hk hbg y9 y11)
      go_ret
      refine ⟨rfl, ?_⟩
      rw [HX.out]
      refine HS.out.write _ _ g rcap rest _ HK.out rfl HBG.out ((Keep.refl _ _).setCell _ _ (fun _ => rfl)) ?_ (by simp)
      have := HBG.out.set (p * 4 + 3) (.int .u8 (o.c + 1))
      rw [List.set_append_left _ _ (by rw [flat_length]; omega), set_c hpl] at this
      rw [HE.out]
      rw [HO.out] at this
      rw [HM.out]
      exact this
    · have hcd : decide (o.c < 255) = false := by simpa using hc
      have HE : Hid (hitE o = o) := by show _ = _; unfold hitE; rw [if_neg hc]
      clear hc
      unfold ptr
      go_enter Try.func38, Try.ntmps38
      go_wp2_with (go_at_call 59; refine (hfind _ (Keep.refl _ _)).mono ?_; rintro e w1 ⟨rfl, hk⟩; have HK := hid hk; obtain ⟨cap, y0, y1, y2, y3, y4, y5, y6, y7, y9⟩ := HS.out.opn _ hk; obtain ⟨g, rcap, rest, rfl, y10, y11, hbg, y12, y13, y14, y15⟩ := y9.resolve_left (fun e => by rw [e.2] at hpl; exact absurd hpl (Nat.not_lt_zero _)); obtain ⟨s0, s1, s2, s3⟩ := slot hbg hpl; rw [HO.out] at s0 s1 s2 s3; have hfr := hbg.frozen; have hgl := hbg.lt; have HBG := hid hbg; clear hk hbg y9 y11)
      go_ret
      refine ⟨rfl, ?_⟩
      rw [HX.out, HE.out]
      refine HS.out.write _ _ g rcap rest _ HK.out rfl HBG.out (Keep.refl _ _) ?_ (by simp)
      have : L.set p o = L := by rw [← HO.out]; unfold gt; simp [hpl]
      rw [this]
      exact HBG.out

set_option maxRecDepth 100000 in
set_option maxHeartbeats 1000000 in
theorem rmove_any (hX : RIdx w br ba vs most Ls) (hG : GoodL most Ls) (h fr to : Int) (hh : 0 ≤ h) (hh2 : h < 18446744073709551616) :
    Calls Try.prog 37 #[ptr br, .int .u64 h, .int .u64 fr, .int .u64 to] w fun e w' => e = .returned (.bool (xmove most h fr to Ls).1) ∧ RThen w w' (ptr br) most (xmove most h fr to Ls).2 (RFoot br ba vs) := by
  obtain ⟨s, p, n, v, L, S⟩ := Y4.RIdx.setup hX hG h hh hh2
  have hg : xget h Ls = lget h L := by unfold xget; rw [S.list]
  have hfind := S.find
  have HS := hid S
  cases hl : lget h L with
  | none =>
    have hx : xmove most h fr to Ls = (false, Ls) := by unfold xmove; rw [hg, hl]
    rw [hx]
    rw [hl] at hfind
    simp only [Option.isSome_none] at hfind
    clear S hg hl hx hX
    unfold ptr
    go_enter Try.func37, Try.ntmps37
    go_wp2_with (go_at_call 59; refine (hfind _ (Keep.refl _ _)).mono ?_; rintro e w1 ⟨rfl, hk⟩; have HK := hid hk; clear hk)
    go_ret
    exact ⟨rfl, HS.out.stays _ HK.out⟩
  | some o =>
    rw [hl] at hfind
    obtain ⟨hpl, ho⟩ := S.found o hl
    have hm := lget_some hl
    have hxm : xmove most h fr to Ls = if o.a = fr ∧ to ≠ 0 then (true, xset h (putR most { o with a := to } L).2.2 Ls) else (false, Ls) := by unfold xmove; rw [hg, hl, S.list]
    have hput : (putR most { o with a := to } L).2.2 = L.set p { o with a := to } := by
      have e : lget ({ o with a := to } : Ent).h L = some o := by rw [show ({ o with a := to } : Ent).h = h from hm.2]; exact hl
      unfold putR
      rw [e]
      have := (lput_set (e := { o with a := to }) S.sorted e).2.2
      rw [this, show ({ o with a := to } : Ent).h = h from hm.2, ← S.pos]
    have i0 : (0 : Int) ≤ (s : Nat) := by omega
    have i1 : (s : Int) < n := by have := S.hs; omega
    have i2 : (0 : Int) ≤ (p : Nat) := by omega
    have i3 : (p : Int) < L.length := by omega
    have HO := hid ho
    simp only [Option.isSome_some] at hfind
    rw [hput] at hxm
    clear S hg hl hm hX ho hput
    by_cases hf : o.a = fr
    · have hfd : (o.a != fr) = false := by simp [hf]
      by_cases ht : to = 0
      · have htd : (to == 0) = true := by simp [ht]
        rw [if_neg (by simp [ht])] at hxm
        rw [hxm]
        clear hxm hf ht
        unfold ptr
        go_enter Try.func37, Try.ntmps37
        go_wp2_with (go_at_call 59; refine (hfind _ (Keep.refl _ _)).mono ?_; rintro e w1 ⟨rfl, hk⟩; have HK := hid hk; obtain ⟨cap, y0, y1, y2, y3, y4, y5, y6, y7, y9⟩ := HS.out.opn _ hk; obtain ⟨g, rcap, rest, rfl, y10, y11, hbg, y12, y13, y14, y15⟩ := y9.resolve_left (fun e => by rw [e.2] at hpl; exact absurd hpl (Nat.not_lt_zero _)); obtain ⟨s0, s1, s2, s3⟩ := slot hbg hpl; rw [HO.out] at s0 s1 s2 s3; have hfr := hbg.frozen; have hgl := hbg.lt; have HBG := hid hbg; clear hk hbg y9 y11)
        go_ret
        exact ⟨rfl, HS.out.stays _ HK.out⟩
      · have htd : (to == 0) = false := by simpa using ht
        rw [if_pos ⟨hf, ht⟩] at hxm
        have HXM := hid hxm
        clear hxm hf ht
        unfold ptr
        go_enter Try.func37, Try.ntmps37
        go_wp2_with (go_at_call 59; refine (hfind _ (Keep.refl _ _)).mono ?_; rintro e w1 ⟨rfl, hk⟩; have HK := hid hk; obtain ⟨cap, y0, y1, y2, y3, y4, y5, y6, y7, y9⟩ := HS.out.opn _ hk; obtain ⟨g, rcap, rest, rfl, y10, y11, hbg, y12, y13, y14, y15⟩ := y9.resolve_left (fun e => by rw [e.2] at hpl; exact absurd hpl (Nat.not_lt_zero _)); obtain ⟨s0, s1, s2, s3⟩ := slot hbg hpl; rw [HO.out] at s0 s1 s2 s3; have hfr := hbg.frozen; have hgl := hbg.lt; have HBG := hid hbg; clear hk hbg y9 y11)
        go_ret
        refine ⟨by rw [HXM.out]; rfl, ?_⟩
        rw [HXM.out]
        refine HS.out.write _ _ g rcap rest _ HK.out rfl HBG.out ((Keep.refl _ _).setCell _ _ (fun _ => rfl)) ?_ (by simp)
        have := HBG.out.set (p * 4 + 1) (.int .u64 to)
        rw [List.set_append_left _ _ (by rw [flat_length]; omega), set_a hpl] at this
        rw [HO.out] at this
        exact this
    · have hfd : (o.a != fr) = true := by simp [hf]
      rw [if_neg (fun e => hf e.1)] at hxm
      rw [hxm]
      clear hxm hf
      unfold ptr
      go_enter Try.func37, Try.ntmps37
      go_wp2_with (go_at_call 59; refine (hfind _ (Keep.refl _ _)).mono ?_; rintro e w1 ⟨rfl, hk⟩; have HK := hid hk; obtain ⟨cap, y0, y1, y2, y3, y4, y5, y6, y7, y9⟩ := HS.out.opn _ hk; obtain ⟨g, rcap, rest, rfl, y10, y11, hbg, y12, y13, y14, y15⟩ := y9.resolve_left (fun e => by rw [e.2] at hpl; exact absurd hpl (Nat.not_lt_zero _)); obtain ⟨s0, s1, s2, s3⟩ := slot hbg hpl; rw [HO.out] at s0 s1 s2 s3; have hfr := hbg.frozen; have hgl := hbg.lt; have HBG := hid hbg; clear hk hbg y9 y11)
      go_ret
      exact ⟨rfl, HS.out.stays _ HK.out⟩
end
end Go.Proofs.Ytaijfgajcmopfaa.Y5
/- A region that draws its order, its last operation waiting for all others: the rest first, then the last. (So a store to a cell that the region loads may end it: the rest is walked with that cell held.) -/
set_option linter.unusedVariables false
namespace Go.Proofs.Ytaijfgajcmopfaa.Pop
open Go

/-- Q, but at the normal end the last operation is to be run first -/
def Before (P : Program) (ops : Array Oper) (m : Nat) (Q : Exit → Act → World → Prop) : Exit → Act → World → Prop
  | .normal, a, w => wpOp P ops Q m (fun a' w' => Q .normal a' w') a w
  | e, a, w => Q e a w

theorem before_normal {P : Program} {ops : Array Oper} {m : Nat} {Q : Exit → Act → World → Prop} {a : Act} {w : World} (h : wpOp P ops Q m (fun a' w' => Q .normal a' w') a w) : Before P ops m Q .normal a w := h

theorem before_lets {P : Program} {ops : Array Oper} {m : Nat} {Q : Exit → Act → World → Prop} : LetsOut (Before P ops m Q) ↔ LetsOut Q := Iff.rfl

theorem upon_before {P : Program} {ops : Array Oper} {m : Nat} {Q : Exit → Act → World → Prop} {o : Oper} {a : Act} {w : World} {K : Act → World → Prop} (h : o.wp P a w K (Before P ops m Q)) : o.wp P a w K Q := by
  unfold Oper.wp at *
  generalize (execOp a.eval o).run P w = r at *
  cases r with
  | ok n w' =>
    cases n <;> simp only [Oper.upon] at h ⊢ <;>
      first
        | exact h
        | exact Calls.mono h (fun e w'' he => by cases e <;> exact he)
  | halt x w' => cases x <;> simp only [Oper.upon] at h ⊢ <;> exact h

theorem wpOp_before {P : Program} {ops : Array Oper} {m i : Nat} {Q : Exit → Act → World → Prop} {a : Act} {w : World} {K : Act → World → Prop} (h : wpOp P ops (Before P ops m Q) i K a w) : wpOp P ops Q i K a w := by
  unfold wpOp at *
  split
  · rename_i ho; simpa [ho] using h
  · rename_i o ho
    simp only [ho] at h
    split
    · rename_i hw
      simp only [hw, if_true] at h
      exact h.imp upon_before id
    · rename_i hw
      simp only [hw] at h
      exact h

/-- what is asked of the operations: each waits for earlier ones alone; the last waits for all, be it through others -/
def popOk (md : Region.Mode) (ops : Array Oper) (m : Nat) : Bool :=
  (ops.size == m + 1) && (List.range m).all (fun j => (List.range (m + 1)).any (fun k => decide (j < k) && Region.waitsFor md ops k j)) &&
  (List.range (m + 1)).all (fun i => match ops[i]? with | some o => o.after.all (fun e => decide (e.on < i)) | none => false)

theorem mem_ready {md : Region.Mode} {ops : Array Oper} {listed : Array Bool} {i : Nat} : i ∈ Region.ready md ops listed ↔ i < ops.size ∧ listed.getD i true = false ∧ ∃ o, ops[i]? = some o ∧ ∀ e ∈ o.after, Region.binds md e = true → listed.getD e.on false = true := by
  unfold Region.ready
  rw [List.mem_filter, List.mem_range]
  refine and_congr_right fun hi => ?_
  rw [Array.getElem?_eq_getElem hi]
  simp only [Option.map_some, Option.getD_some, Bool.and_eq_true, Bool.not_eq_true', Array.all_eq_true_iff_forall_mem, Bool.or_eq_true]
  constructor
  · rintro ⟨h1, h2⟩
    refine ⟨h1, _, rfl, fun e he hb => ?_⟩
    rcases h2 e he with h | h
    · rw [h] at hb; cases hb
    · exact h
  · rintro ⟨h1, o, ho, h2⟩
    obtain rfl := Option.some.inj ho
    refine ⟨h1, fun e he => ?_⟩
    cases hb : Region.binds md e with
    | false => exact .inl rfl
    | true => exact .inr (h2 e he hb)

section
variable {P : Program} {md : Region.Mode} {ops : Array Oper} {Q : Exit → Act → World → Prop} {m : Nat}

theorem popOk_spec (h : popOk md ops m = true) : ops.size = m + 1 ∧ (∀ j, j < m → ∃ k, j < k ∧ k < m + 1 ∧ Region.waitsFor md ops k j = true) ∧ ∀ i, i < m + 1 → ∃ o, ops[i]? = some o ∧ ∀ e ∈ o.after, e.on < i := by
  unfold popOk at h
  simp only [Bool.and_eq_true, beq_iff_eq, List.all_eq_true, List.mem_range] at h
  obtain ⟨⟨h1, h2⟩, h3⟩ := h
  refine ⟨h1, fun j hj => ?_, fun i hi => ?_⟩
  · have := h2 j hj
    simp only [List.any_eq_true, List.mem_range, Bool.and_eq_true, decide_eq_true_eq] at this
    obtain ⟨k, hk, hjk, hw⟩ := this
    exact ⟨k, hjk, hk, hw⟩
  have := h3 i hi
  split at this
  · rename_i o ho
    refine ⟨o, ho, fun e he => ?_⟩
    rw [Array.all_eq_true_iff_forall_mem] at this
    simpa using this e he
  · cases this

theorem wpAny_done {listed : Array Bool} {a : Act} {w : World} (hr : Region.ready md ops listed = []) (h : Q .normal a w) : ∀ fuel, wpAny P md ops Q fuel listed a w
  | 0 => ⟨hr, h⟩
  | _ + 1 => ⟨fun _ => h, by rw [hr]; simp⟩

theorem getD_set {A : Array Bool} {k i : Nat} {d : Bool} (hk : k < A.size) : (A.setIfInBounds k true).getD i d = if i = k then true else A.getD i d := by
  rw [Array.getD_eq_getD_getElem?, Array.getElem?_setIfInBounds, Array.getD_eq_getD_getElem?]
  by_cases h : k = i
  · subst h; simp [hk]
  · simp [h, Ne.symm h]

/-- not all have come up: one may -/
theorem ready_some (hok : popOk md ops m = true) {listed : Array Bool} (hs : listed.size = m + 1) : ∀ n, n < m + 1 → listed.getD n true = false → Region.ready md ops listed ≠ [] := by
  obtain ⟨h1, h2, h3⟩ := popOk_spec hok
  intro n
  induction n using Nat.strongRecOn with
  | _ n ih =>
    intro hn hl
    by_cases hall : ∀ j, j < n → listed.getD j true = true
    · obtain ⟨o, ho, hb⟩ := h3 n hn
      have : n ∈ Region.ready md ops listed := mem_ready.2 ⟨by omega, hl, o, ho, fun e he _ => by
        have hlt := hb e he
        have := hall e.on hlt
        rw [Array.getD_eq_getD_getElem?, Array.getElem?_eq_getElem (by omega)] at this ⊢
        exact this⟩
      intro e
      rw [e] at this
      cases this
    · obtain ⟨j, hj⟩ := Classical.not_forall.1 hall
      obtain ⟨hj, hjl⟩ := Classical.not_imp.1 hj
      exact ih j hj (by omega) (by simpa using hjl)

/-- what has come up had all that it waits for -/
def Closed (md : Region.Mode) (ops : Array Oper) (listed : Array Bool) : Prop := ∀ i, listed.getD i false = true → ∀ o, ops[i]? = some o → ∀ e ∈ o.after, Region.binds md e = true → listed.getD e.on false = true

theorem closed_add {listed : Array Bool} {i : Nat} (hc : Closed md ops listed) (hi : i ∈ Region.ready md ops listed) (hs : listed.size = ops.size) : Closed md ops (listed.setIfInBounds i true) := by
  obtain ⟨hi1, hi2, o, ho, hi3⟩ := mem_ready.1 hi
  intro j hj oj hoj e he hb
  rw [getD_set (by omega)] at hj ⊢
  split
  · rfl
  · split at hj
    · rename_i h; subst h
      rw [ho] at hoj
      obtain rfl := Option.some.inj hoj
      exact hi3 e he hb
    · exact hc j hj oj hoj e he hb

theorem all_of_last (hok : popOk md ops m = true) {listed : Array Bool} (hc : Closed md ops listed) {o : Oper} (ho : ops[m]? = some o) (hi3 : ∀ e ∈ o.after, Region.binds md e = true → listed.getD e.on false = true) : ∀ n j, m - j ≤ n → j < m → listed.getD j false = true := by
  obtain ⟨h1, h2, h3⟩ := popOk_spec hok
  intro n
  induction n with
  | zero => intro j h hj; omega
  | succ n ih =>
    intro j h hj
    obtain ⟨k, hjk, hk, hw⟩ := h2 j hj
    obtain ⟨ok, hok', e, he, hb, hon⟩ := Region.waitsFor_spec hw
    by_cases hkm : k = m
    · subst hkm
      rw [ho] at hok'
      obtain rfl := Option.some.inj hok'
      have := hi3 e he hb
      rw [hon] at this
      exact this
    · have := hc k (ih k (by omega) (by omega)) ok hok' e he hb
      rw [hon] at this
      exact this

theorem wpAny_pop (hok : popOk md ops m = true) : ∀ (fuel : Nat) (listed : Array Bool) (a : Act) (w : World), Closed md ops listed → listed.size = m + 1 → listed.getD m true = false →
    wpAny P md ops (Before P ops m Q) fuel (listed.setIfInBounds m true) a w → wpAny P md ops Q (fuel + 1) listed a w := by
  obtain ⟨h1, h2, h3⟩ := popOk_spec hok
  intro fuel
  induction fuel with
  | zero =>
    intro listed a w hcl hs hm H
    refine ⟨fun h0 => absurd h0 (ready_some hok hs m (by omega) hm), fun i hi => ?_⟩
    obtain ⟨hi1, hi2, o, ho, hi3⟩ := mem_ready.1 hi
    by_cases him : i = m
    · subst him
      refine wpOp_mono (fun a' w' hq => ?_) H.2
      exact wpAny_done H.1 hq 0
    · exfalso
      have : i ∈ Region.ready md ops (listed.setIfInBounds m true) := mem_ready.2 ⟨hi1, by rw [getD_set (by omega), if_neg him]; exact hi2, o, ho, fun e he hb => by
        rw [getD_set (by omega)]
        split
        · rfl
        · exact hi3 e he hb⟩
      rw [H.1] at this
      cases this
  | succ f ih =>
    intro listed a w hcl hs hm H
    refine ⟨fun h0 => absurd h0 (ready_some hok hs m (by omega) hm), fun i hi => ?_⟩
    obtain ⟨hi1, hi2, o, ho, hi3⟩ := mem_ready.1 hi
    by_cases him : i = m
    · subst him
      have hall : ∀ j, j < i → listed.getD j true = true := fun j hj => by
        have := all_of_last hok hcl ho hi3 _ j (Nat.le_refl _) hj
        rw [Array.getD_eq_getD_getElem?, Array.getElem?_eq_getElem (by omega)] at this ⊢
        exact this
      have hnone : Region.ready md ops (listed.setIfInBounds i true) = [] := by
        rw [List.eq_nil_iff_forall_not_mem]
        intro j hj
        obtain ⟨hj1, hj2, _⟩ := mem_ready.1 hj
        rw [getD_set (by omega)] at hj2
        split at hj2
        · cases hj2
        · rw [hall j (by omega)] at hj2
          cases hj2
      exact wpOp_mono (fun a' w' hq => wpAny_done hnone hq (f + 1)) (H.1 hnone)
    · have hr : i ∈ Region.ready md ops (listed.setIfInBounds m true) := mem_ready.2 ⟨hi1, by rw [getD_set (by omega), if_neg him]; exact hi2, o, ho, fun e he hb => by
        rw [getD_set (by omega)]
        split
        · rfl
        · exact hi3 e he hb⟩
      have := wpOp_before (H.2 i hr)
      refine wpOp_mono (fun a' w' hq => ?_) this
      refine ih _ a' w' (closed_add hcl hi (by omega)) (by simpa using hs) ?_ ?_
      · rw [getD_set (by omega), if_neg (Ne.symm him)]
        exact hm
      · have hc : (listed.setIfInBounds i true).setIfInBounds m true = (listed.setIfInBounds m true).setIfInBounds i true := by
          exact Array.setIfInBounds_comm _ _ him
        rw [hc]
        exact hq

/-- **THE REST FIRST, THEN THE LAST.** -/
theorem wp_region_pop {S : World → Prop} {id : Nat} {a : Act} {w : World} (hm : P.follows .mixedOrders = true) (hok : popOk .any ops m = true)
    (h : wpAnyH P .any ops (Before P ops m Q) S m ((Array.replicate ops.size false).setIfInBounds m true) a { w with drawn := w.drawn + 1 }) : (Code.region id ops true).wp P Q a w := by
  obtain ⟨h1, _, _⟩ := popOk_spec hok
  refine wp_region_any hm ?_
  have := wpAny_pop (P := P) (Q := Q) hok m (Array.replicate ops.size false) a { w with drawn := w.drawn + 1 } (fun i hi => by simp only [Array.getD_eq_getD_getElem?, Array.getElem?_replicate] at hi; split at hi <;> cases hi) (by simp [h1]) (by rw [Array.getD_eq_getD_getElem?, Array.getElem?_replicate, if_pos (by omega)]; rfl) (wpAny_of_held _ _ _ _ h)
  rw [h1] at this ⊢
  exact this
end
end Go.Proofs.Ytaijfgajcmopfaa.Pop
/- The document's index: Remove. -/
set_option linter.unusedVariables false
set_option linter.unusedSimpArgs false
namespace Go.Proofs.Ytaijfgajcmopfaa.Y6
open Go.RowKit Go.Shelf V Rh T W1 W2 W3 W4 W6 Rf X1 X2 X4 X5 X6 Pl Y1 Y2 Y3 Y4 Y5

/-- append within a region that draws its order, onto a row of one's own -/
theorem step_append_at {P : Program} {ops : Array Oper} {o : Oper} {a : Act} {w : World} {K : Act → World → Prop} {Q : Exit → Act → World → Prop} {E : Prop} (hgd : o.guard = none) (s x : Operand) (t : TypeId)
    (ho : o.op = .call { callee := .builtin .append, args := #[s, x], argTypes := #[t, t] })
    (base : Nat) (e : TypeId) (i : TypeInfo) (z : Value) (size bytes : Nat) (ht : P.underlying t = some (.slice e)) (hi : P.info? e = some i) (hz : i.zero = some z)
    (hsize : i.size = size) (hby : i.bytes = bytes) (hzs : z.cells.size = size) (hsz : 0 < size)
    (v : Value) (n : Nat) (xs : List Value) (hs : a.eval s = v) (hown : w.ownsRow base e size v n xs)
    (ad : Addr) (m c : Nat) (news : List Value) (hx : a.eval x = .slice (some ad) m c) (hl : news.length = m * size) (hnews : ∀ j u, news[j]? = some u → w.cell? (ad.add j) = some u) (h1 : ∀ u ∈ news, u.oneCell' = true)
    (h63 : n + m ≤ maxLen) (hbytes : (n + m) * bytes ≤ 140737488355328) (hbase : base ≤ w.heap.size)
    (h : ∀ v' w', w'.ownsRow base e size v' (n + m) (xs ++ news) → w.grownBy w' v.ownBlock → (v' = .slice none 0 0 ↔ v = .slice none 0 0 ∧ m = 0) → (v'.ownBlock = v.ownBlock ∨ v'.ownBlock = some w.heap.size) → K (a.put o.dst v') w') :
    if Region.wanted o (yielded ops a.tmps) = true then Oper.wp P o a w K Q else E := by
  have hw : Region.wanted o (yielded ops a.tmps) = true := by simp [Region.wanted, hgd]
  rw [if_pos hw]
  obtain ⟨v', w', hr, h2, h3, h4, h5⟩ := run_append_own_at (P := P) w base t o.type e i z size bytes ht hi hz hsize hby hzs hsz v n xs hown ad m c news hl hnews h1 h63 hbytes hbase
  unfold Oper.wp execOp
  simp only [ho, resolve, invoke, builtin, Sem.run_bind, Sem.run_pure, Result.andThen_ok, List.map_toArray, List.map_cons, List.map_nil, hs, hx, hr]
  exact h v' w' h2 h3 h4 h5

theorem Blk.ot' {w : World} {b : Nat} {cs : List Value} {t : TypeId} (h : Blk w b cs t) {B : Nat} (hB : b ≠ B) (i : Nat) (u : Value) : Blk (w.setCell ⟨B, i, none⟩ u) b cs t := h.other _ _ hB

section
variable {w : World} {br ba most : Nat} {vs : List Value} {Ls : List (List Ent)}

theorem xrem_some {h : Int} {s p n : Nat} {v : Value} {L : List Ent} {o : Ent} (S : Setup w br ba most vs Ls h s p n v L) (hl : lget h L = some o) : xrem h Ls = xset h (L.take p ++ L.drop (p + 1)) Ls := by
  unfold xrem
  rw [S.list, lrem_pos S.sorted hl, ← S.pos]

set_option maxRecDepth 100000 in
set_option maxHeartbeats 4000000 in
theorem rremove_any (hX : RIdx w br ba vs most Ls) (hG : GoodL most Ls) (h : Int) (hh : 0 ≤ h) (hh2 : h < 18446744073709551616) :
    Calls Try.prog 35 #[ptr br, .int .u64 h] w fun e w' => e = .returned (.tuple #[valE ((xget h Ls).getD z), .bool (xget h Ls).isSome]) ∧ RThen w w' (ptr br) most (xrem h Ls) (RFoot br ba vs) := by
  obtain ⟨s, p, n, v, L, S⟩ := Y4.RIdx.setup hX hG h hh hh2
  have hg : xget h Ls = lget h L := by unfold xget; rw [S.list]
  rw [hg]
  have hfind := S.find
  have HS := hid S
  have HB : Hid (Blk (w.alloc (.cells #[.int .u64 0, .int .u64 0, .int .u64 0, .int .u8 0] 27)) w.heap.size [.int .u64 0, .int .u64 0, .int .u64 0, .int .u8 0] 27) := Blk.new' _ rfl
  cases hl : lget h L with
  | none =>
    have hx : xrem h Ls = Ls := by
      unfold xrem
      have := S.list
      subst this
      rw [lrem_of_none hl]
      exact xset_self
    rw [hx]
    rw [hl] at hfind
    simp only [Option.isSome_none] at hfind
    clear S hg hl hx hX
    unfold ptr
    go_enter Try.func35, Try.ntmps35
    go_wp2_with (go_at_call 59; refine (hfind _ ((Keep.refl _ _).alloc _)).mono ?_; rintro e w1 ⟨rfl, hk⟩; have hk1 := hid (Keep.trans ((Keep.refl No w).alloc _) hk (fun _ _ h => h)); have hd := hid (HB.out.mod hk (no _)); obtain ⟨q0, b0, b1, b2, b3, g0⟩ := hd.out.four; clear hk)
    exact bodyPost_ret (res_eu (e := z) rfl _ rfl rfl (Blk.setE hd.out z)) rfl ⟨rfl, HS.out.stays _ (hk1.out.set4 (fun h => absurd h (by omega)) _ _ _ _ _ _ _ _)⟩
  | some o =>
    rw [hl] at hfind
    obtain ⟨hpl, ho⟩ := S.found o hl
    have HX := hid (xrem_some S hl)
    have i0 : (0 : Int) ≤ (s : Nat) := by omega
    have i1 : (s : Int) < n := by have := S.hs; omega
    have i2 : (0 : Int) ≤ (p : Nat) := by omega
    have i3 : (p : Int) < L.length := by omega
    have hsm := S.small
    have HO := hid ho
    simp only [Option.isSome_some] at hfind
    clear S hg hl hX ho
    unfold ptr
    obtain ⟨t0, hi, hz0, hz1, hz2⟩ := info_parts info27
    go_enter Try.func35, Try.ntmps35
    go_wp2_with (go_at_call 59; refine (hfind _ ((Keep.refl _ _).alloc _)).mono ?_; rintro e w1 ⟨rfl, hk⟩; have HK := hid (Keep.trans ((Keep.refl No w).alloc _) hk (fun _ _ h => h)); have hd := hid (HB.out.mod hk (no _)); obtain ⟨q0, b0, b1, b2, b3, g0⟩ := hd.out.four; obtain ⟨cap, y0, y1, y2, y3, y4, y5, y6, y7, y9⟩ := HS.out.opn _ HK.out; obtain ⟨g, rcap, rest, rfl, y10, y11, hbg, y12, y13, y14, y15⟩ := y9.resolve_left (fun e => by rw [e.2] at hpl; exact absurd hpl (Nat.not_lt_zero _)); obtain ⟨s0, s1, s2, s3⟩ := slot hbg hpl; rw [HO.out] at s0 s1 s2 s3; have hfr := hbg.frozen; have hgl := hbg.lt; have HBG := hid hbg; clear hk hbg y9 y11)
    have hbe : 1 = 1 := rfl
    obtain ⟨W, hW⟩ : ∃ W, w1.alloc (.cells #[.int .u64 o.h, .int .u64 o.a, .int .u64 o.v, .int .u8 o.c] 27) = W := ⟨_, rfl⟩
    have hWs : W.heap.size = w1.heap.size + 1 := by rw [← hW]; simp
    rw [hW]
    have Y3 : W.cell? ⟨br, 1, none⟩ = some (.slice (some ⟨ba, 0, none⟩) n cap) := by rw [← hW, World.cell?_alloc_lt _ _ _ y1]; exact y3
    have Y7 : W.cell? ⟨ba, s, none⟩ = some (.slice (some ⟨g, 0, none⟩) L.length rcap) := by rw [← hW, World.cell?_alloc_lt _ _ _ y5]; exact y7
    have FB : ∀ i, W.frozen? ⟨ba, i, none⟩ = false := by
      intro i
      rw [← hW]
      obtain ⟨rr, hrow⟩ : ∃ o, w1.heap[ba]? = some o := ⟨_, Array.getElem?_eq_getElem y5⟩
      exact (World.frozen?_of_block (Below.heap_alloc _ _ _ y5)).trans (y6 i)
    have HBW : Hid (Blk W g (flat L ++ rest) 27) := by rw [← hW]; exact HBG.out.alloc _
    have z1 : br < W.heap.size := by omega
    have z2 : ba < W.heap.size := by omega
    have z3 : g < W.heap.size := by omega
    have hn1 : p + 1 ≤ L.length := by omega
    have hpr : p ≤ rcap := by omega
    have hpr1 : p + 1 ≤ rcap := by omega
    clear y2 y3 y4 y6 y7 s0 s1 s2 s3 hfr b0 b1 b2 b3 g0 hWs
    have hkW : Keep No w W := by rw [← hW]; exact HK.out.alloc _
    have hwW : w.heap.size ≤ W.heap.size := hkW.size
    have N1 : Hid (∀ V : World, Keep No W V → ∀ j u, (flat (L.take p))[j]? = some u → V.cell? ((⟨g, 0, none⟩ : Addr).add j) = some u) := fun V hV j u hu => by
      rw [add_at, Nat.zero_add, (HBW.out.mod hV (no _)).cell]
      have hj : j < (flat (L.take p)).length := (List.getElem?_eq_some_iff.1 hu).1
      have hsp : flat L = flat (L.take p) ++ flat (L.drop p) := by unfold flat; rw [← List.flatMap_append, List.take_append_drop]
      rw [hsp, List.append_assoc, List.getElem?_append_left hj]
      exact hu
    obtain ⟨ad, had, N2⟩ : ∃ ad : Addr, (rcap = p + 1 ∧ ad = ⟨g, 0, none⟩ ∨ (¬ rcap = p + 1) ∧ ad = ⟨g, (p + 1) * 4, none⟩) ∧ Hid (∀ V : World, Keep No W V → ∀ j u, (flat (L.drop (p + 1)))[j]? = some u → V.cell? (ad.add j) = some u) := by
      by_cases hrc : rcap = p + 1
      · refine ⟨_, .inl ⟨hrc, rfl⟩, fun V hV j u hu => ?_⟩
        rw [List.drop_eq_nil_of_le (by omega)] at hu
        cases hu
      · refine ⟨_, .inr ⟨hrc, rfl⟩, fun V hV j u hu => ?_⟩
        rw [add_at, (HBW.out.mod hV (no _)).cell]
        have hj : j < (flat (L.drop (p + 1))).length := (List.getElem?_eq_some_iff.1 hu).1
        have hsp : flat L = flat (L.take (p + 1)) ++ flat (L.drop (p + 1)) := by unfold flat; rw [← List.flatMap_append, List.take_append_drop]
        have hl : (flat (L.take (p + 1))).length = (p + 1) * 4 := by rw [flat_length, List.length_take]; omega
        rw [hsp, List.append_assoc, List.getElem?_append_right (by omega), List.getElem?_append_left (by omega), hl, Nat.add_sub_cancel_left]
        exact hu
    have K1 : Hid (∀ (V V' : World) (r : Option Nat), Keep No W V → V.grownBy V' r → (∀ k, r = some k → W.heap.size ≤ k) → Keep No W V') := fun V V' r hV hg hr => hV.grown hg (fun k e hk => by have := hr k e; omega)
    have S1 : Hid (∀ V : World, Keep No W V → V.cell? ⟨br, 1, none⟩ = some (.slice (some ⟨ba, 0, none⟩) n cap) ∧ V.cell? ⟨ba, s, none⟩ = some (.slice (some ⟨g, 0, none⟩) L.length rcap)) := fun V hV => ⟨(World.cell?_of_block (hV.block br z1 (no _))).trans Y3, (World.cell?_of_block (hV.block ba z2 (no _))).trans Y7⟩
    have F1 : Hid (∀ V : World, Keep No W V → (∀ i, V.frozen? ⟨ba, i, none⟩ = false) ∧ ba < V.heap.size) := fun V hV => ⟨fun i => (World.frozen?_of_block (hV.block ba z2 (no _))).trans (FB i), Nat.lt_of_lt_of_le z2 hV.size⟩
    have KA : Hid (Keep No W ((W.alloc (.cells #[] 27)).drew)) := ((Keep.refl _ _).alloc _).drew
    have O1 : Hid (((W.alloc (.cells #[] 27)).drew).ownsRow W.heap.size 27 4 (.slice (some ⟨W.heap.size, 0, none⟩) 0 0) 0 []) := (World.ownsRow_lit W #[] 0 (Nat.le_refl _) (by decide) rfl).drew
    have LT : Hid ((flat (L.take p)).length = p * 4) := by show _ = _; rw [flat_length, List.length_take]; omega
    have LD : Hid ((flat (L.drop (p + 1))).length = (L.length - (p + 1)) * 4) := by show _ = _; rw [flat_length, List.length_drop]; omega
    have W1 : IntKind.i64.wrap ((p : Int) + 1) = (p : Int) + 1 := IntWalk.i64_in _ (by omega)
    have W2 : (0 : Int) ≤ (p : Int) + 1 := by omega
    have W3 : (p : Int) + 1 ≤ (L.length : Int) := by omega
    have W4 : ((p : Int) + 1).toNat = p + 1 := by omega
    have W5 : (p : Int) ≤ (p : Int) + 1 := by omega
    have hm1 : 0 + p ≤ maxLen := by unfold maxLen; omega
    have hm2 : (0 + p) * 32 ≤ 140737488355328 := by omega
    have hm3 : 0 + p + (L.length - (p + 1)) ≤ maxLen := by unfold maxLen; omega
    have hm4 : (0 + p + (L.length - (p + 1))) * 32 ≤ 140737488355328 := by omega
    have hb1 : W.heap.size ≤ ((W.alloc (.cells #[] 27)).drew).heap.size := KA.out.size
    have hne0 : ∀ x, (Value.slice (some ⟨W.heap.size, 0, none⟩) 0 0).ownBlock = some x → W.heap.size ≤ x := fun x e => by simp [Value.ownBlock] at e; omega
    have M := hid (And.intro hm1 (And.intro hm2 (And.intro hm3 (And.intro hm4 (And.intro hb1 hne0)))))
    clear hm1 hm2 hm3 hm4 hb1 hne0
    have HL4 : Hid (Blk W w.heap.size [.int .u64 0, .int .u64 0, .int .u64 0, .int .u8 0] 27) := by rw [← hW]; exact hd.out.alloc _
    have HL9 : Hid (Blk W w1.heap.size (cellsE o) 27) := by rw [← hW]; exact Blk.new' _ rfl
    have hneL : w.heap.size ≠ ba := by have := HS.out.bound; omega
    have hneR : w1.heap.size ≠ ba := by omega
    unfold cellsE at HL9
    rcases had with ⟨hrc, rfl⟩ | ⟨hrc, rfl⟩
    · subst hrc
      have hLp : L.length = p + 1 := by omega
      have LD1 : Hid ((flat (L.drop (p + 1))).length = 0 * 4) := by show _ = _; rw [flat_length, List.length_drop]; omega
      have M1 : Hid (0 + p + 0 ≤ maxLen) := by have := M.out.1; show _ ≤ _; omega
      have M2 : Hid ((0 + p + 0) * 32 ≤ 140737488355328) := by have := M.out.2.1; show _ ≤ _; omega
      have HLp := hid hLp
      clear hLp
      refine Pop.wp_region_pop (m := 28) (S := fun w' => w'.cell? ⟨br, 1, none⟩ = some (.slice (some ⟨ba, 0, none⟩) n cap) ∧ w'.cell? ⟨ba, s, none⟩ = some (.slice (some ⟨g, 0, none⟩) L.length (p + 1))) (by kernel_rfl) (by kernel_rfl) ?_
      have hS0 := S1.out _ ((Keep.refl No W).drew)
      refine wpAnyH_take (i := 0) (v := ?_) rfl (by kernel_rfl) (by kernel_rfl) (by kernel_rfl) (fun _ _ _ h => h) (Or.inl ⟨by rfl, ?_⟩) hS0 ?_
      rotate_left
      · (intro w hSw; obtain ⟨q1, q2⟩ := hSw; go_simp; try with_reducible rfl)
      simp only [Act.put, List.setIfInBounds_toArray, List.set_cons_zero, List.set_cons_succ]
      refine wpAnyH_take (i := 1) (v := ?_) rfl (by kernel_rfl) (by kernel_rfl) (by kernel_rfl) (fun _ _ _ h => h) (Or.inl ⟨by rfl, ?_⟩) hS0 ?_
      rotate_left
      · (intro w hSw; obtain ⟨q1, q2⟩ := hSw; go_simp; try with_reducible rfl)
      simp only [Act.put, List.setIfInBounds_toArray, List.set_cons_zero, List.set_cons_succ]
      refine wpAnyH_take (i := 2) (v := ?_) rfl (by kernel_rfl) (by kernel_rfl) (by kernel_rfl) (fun _ _ _ h => h) (Or.inl ⟨by rfl, ?_⟩) hS0 ?_
      rotate_left
      · (intro w hSw; obtain ⟨q1, q2⟩ := hSw; go_simp; try with_reducible rfl)
      simp only [Act.put, List.setIfInBounds_toArray, List.set_cons_zero, List.set_cons_succ]
      refine wpAnyH_take (i := 3) (v := ?_) rfl (by kernel_rfl) (by kernel_rfl) (by kernel_rfl) (fun _ _ _ h => h) (Or.inl ⟨by rfl, ?_⟩) hS0 ?_
      rotate_left
      · (intro w hSw; obtain ⟨q1, q2⟩ := hSw; go_simp; try with_reducible rfl)
      simp only [Act.put, List.setIfInBounds_toArray, List.set_cons_zero, List.set_cons_succ]
      refine wpAnyH_take (i := 4) (v := ?_) rfl (by kernel_rfl) (by kernel_rfl) (by kernel_rfl) (fun _ _ _ h => h) (Or.inl ⟨by rfl, ?_⟩) hS0 ?_
      rotate_left
      · (intro w hSw; obtain ⟨q1, q2⟩ := hSw; go_simp; try with_reducible rfl)
      simp only [Act.put, List.setIfInBounds_toArray, List.set_cons_zero, List.set_cons_succ]
      refine wpAnyH_take (i := 6) (v := ?_) rfl (by kernel_rfl) (by kernel_rfl) (by kernel_rfl) (fun _ _ _ h => h) (Or.inl ⟨by rfl, ?_⟩) hS0 ?_
      rotate_left
      · (intro w hSw; obtain ⟨q1, q2⟩ := hSw; go_simp; try with_reducible rfl)
      simp only [Act.put, List.setIfInBounds_toArray, List.set_cons_zero, List.set_cons_succ]
      refine wpAnyH_take (i := 7) (v := ?_) rfl (by kernel_rfl) (by kernel_rfl) (by kernel_rfl) (fun _ _ _ h => h) (Or.inl ⟨by rfl, ?_⟩) hS0 ?_
      rotate_left
      · (intro w hSw; obtain ⟨q1, q2⟩ := hSw; go_simp; try with_reducible rfl)
      simp only [Act.put, List.setIfInBounds_toArray, List.set_cons_zero, List.set_cons_succ]
      refine wpAnyH_take (i := 8) (v := ?_) rfl (by kernel_rfl) (by kernel_rfl) (by kernel_rfl) (fun _ _ _ h => h) (Or.inl ⟨by rfl, ?_⟩) hS0 ?_
      rotate_left
      · (intro w hSw; obtain ⟨q1, q2⟩ := hSw; go_simp; try with_reducible rfl)
      simp only [Act.put, List.setIfInBounds_toArray, List.set_cons_zero, List.set_cons_succ]
      refine wpAnyH_take (i := 9) (v := ?_) rfl (by kernel_rfl) (by kernel_rfl) (by kernel_rfl) (fun _ _ _ h => h) (Or.inl ⟨by rfl, ?_⟩) hS0 ?_
      rotate_left
      · (intro w hSw; obtain ⟨q1, q2⟩ := hSw; go_simp; try with_reducible rfl)
      simp only [Act.put, List.setIfInBounds_toArray, List.set_cons_zero, List.set_cons_succ]
      refine wpAnyH_take (i := 10) (v := ?_) rfl (by kernel_rfl) (by kernel_rfl) (by kernel_rfl) (fun _ _ _ h => h) (Or.inl ⟨by rfl, ?_⟩) hS0 ?_
      rotate_left
      · (intro w hSw; obtain ⟨q1, q2⟩ := hSw; go_simp; try with_reducible rfl)
      simp only [Act.put, List.setIfInBounds_toArray, List.set_cons_zero, List.set_cons_succ]
      refine wpAnyH_take (i := 11) (v := ?_) rfl (by kernel_rfl) (by kernel_rfl) (by kernel_rfl) (fun _ _ _ h => h) (Or.inl ⟨by rfl, ?_⟩) hS0 ?_
      rotate_left
      · (intro w hSw; obtain ⟨q1, q2⟩ := hSw; go_simp; try with_reducible rfl)
      simp only [Act.put, List.setIfInBounds_toArray, List.set_cons_zero, List.set_cons_succ]
      refine wpAnyH_take (i := 12) (v := ?_) rfl (by kernel_rfl) (by kernel_rfl) (by kernel_rfl) (fun _ _ _ h => h) (Or.inl ⟨by rfl, ?_⟩) hS0 ?_
      rotate_left
      · (intro w hSw; obtain ⟨q1, q2⟩ := hSw; go_simp; try with_reducible rfl)
      simp only [Act.put, List.setIfInBounds_toArray, List.set_cons_zero, List.set_cons_succ]
      refine wpAnyH_take (i := 13) (v := ?_) rfl (by kernel_rfl) (by kernel_rfl) (by kernel_rfl) (fun _ _ _ h => h) (Or.inl ⟨by rfl, ?_⟩) hS0 ?_
      rotate_left
      · (intro w hSw; obtain ⟨q1, q2⟩ := hSw; go_simp; try with_reducible rfl)
      simp only [Act.put, List.setIfInBounds_toArray, List.set_cons_zero, List.set_cons_succ]
      refine wpAnyH_take (i := 14) (v := ?_) rfl (by kernel_rfl) (by kernel_rfl) (by kernel_rfl) (fun _ _ _ h => h) (Or.inl ⟨by rfl, ?_⟩) hS0 ?_
      rotate_left
      · (intro w hSw; obtain ⟨q1, q2⟩ := hSw; go_simp; try with_reducible rfl)
      simp only [Act.put, List.setIfInBounds_toArray, List.set_cons_zero, List.set_cons_succ]
      refine wpAnyH_take (i := 16) (v := ?_) rfl (by kernel_rfl) (by kernel_rfl) (by kernel_rfl) (fun _ _ _ h => h) (Or.inl ⟨by rfl, ?_⟩) hS0 ?_
      rotate_left
      · (intro w hSw; obtain ⟨q1, q2⟩ := hSw; go_simp; try with_reducible rfl)
      simp only [Act.put, List.setIfInBounds_toArray, List.set_cons_zero, List.set_cons_succ]
      refine wpAnyH_take (i := 17) (v := ?_) rfl (by kernel_rfl) (by kernel_rfl) (by kernel_rfl) (fun _ _ _ h => h) (Or.inl ⟨by rfl, ?_⟩) hS0 ?_
      rotate_left
      · (intro w hSw; obtain ⟨q1, q2⟩ := hSw; go_simp; try with_reducible rfl)
      simp only [Act.put, List.setIfInBounds_toArray, List.set_cons_zero, List.set_cons_succ]
      refine wpAnyH_take (i := 18) (v := ?_) rfl (by kernel_rfl) (by kernel_rfl) (by kernel_rfl) (fun _ _ _ h => h) (Or.inl ⟨by rfl, ?_⟩) hS0 ?_
      rotate_left
      · (intro w hSw; obtain ⟨q1, q2⟩ := hSw; go_simp; try with_reducible rfl)
      simp only [Act.put, List.setIfInBounds_toArray, List.set_cons_zero, List.set_cons_succ]
      refine wpAnyH_take (i := 19) (v := ?_) rfl (by kernel_rfl) (by kernel_rfl) (by kernel_rfl) (fun _ _ _ h => h) (Or.inl ⟨by rfl, ?_⟩) hS0 ?_
      rotate_left
      · (intro w hSw; obtain ⟨q1, q2⟩ := hSw; go_simp; try with_reducible rfl)
      simp only [Act.put, List.setIfInBounds_toArray, List.set_cons_zero, List.set_cons_succ]
      refine wpAnyH_take (i := 20) (v := ?_) rfl (by kernel_rfl) (by kernel_rfl) (by kernel_rfl) (fun _ _ _ h => h) (Or.inl ⟨by rfl, ?_⟩) hS0 ?_
      rotate_left
      · (intro w hSw; obtain ⟨q1, q2⟩ := hSw; go_simp; try with_reducible rfl)
      simp only [Act.put, List.setIfInBounds_toArray, List.set_cons_zero, List.set_cons_succ]
      refine wpAnyH_take (i := 21) (v := ?_) rfl (by kernel_rfl) (by kernel_rfl) (by kernel_rfl) (fun _ _ _ h => h) (Or.inl ⟨by rfl, ?_⟩) hS0 ?_
      rotate_left
      · (intro w hSw; obtain ⟨q1, q2⟩ := hSw; go_simp; try with_reducible rfl)
      simp only [Act.put, List.setIfInBounds_toArray, List.set_cons_zero, List.set_cons_succ]
      refine wpAnyH_take (i := 22) (v := ?_) rfl (by kernel_rfl) (by kernel_rfl) (by kernel_rfl) (fun _ _ _ h => h) (Or.inl ⟨by rfl, ?_⟩) hS0 ?_
      rotate_left
      · (intro w hSw; obtain ⟨q1, q2⟩ := hSw; go_simp; try with_reducible rfl)
      simp only [Act.put, List.setIfInBounds_toArray, List.set_cons_zero, List.set_cons_succ]
      refine wpAnyH_take (i := 23) (v := ?_) rfl (by kernel_rfl) (by kernel_rfl) (by kernel_rfl) (fun _ _ _ h => h) (Or.inl ⟨by rfl, ?_⟩) hS0 ?_
      rotate_left
      · (intro w hSw; obtain ⟨q1, q2⟩ := hSw; go_simp; try with_reducible rfl)
      simp only [Act.put, List.setIfInBounds_toArray, List.set_cons_zero, List.set_cons_succ]
      refine wpAnyH_take (i := 24) (v := ?_) rfl (by kernel_rfl) (by kernel_rfl) (by kernel_rfl) (fun _ _ _ h => h) (Or.inl ⟨by rfl, ?_⟩) hS0 ?_
      rotate_left
      · (intro w hSw; obtain ⟨q1, q2⟩ := hSw; go_simp; try with_reducible rfl)
      simp only [Act.put, List.setIfInBounds_toArray, List.set_cons_zero, List.set_cons_succ]
      refine wpAnyH_take (i := 25) (v := ?_) rfl (by kernel_rfl) (by kernel_rfl) (by kernel_rfl) (fun _ _ _ h => h) (Or.inl ⟨by rfl, ?_⟩) hS0 ?_
      rotate_left
      · (intro w hSw; obtain ⟨q1, q2⟩ := hSw; go_simp; try with_reducible rfl)
      simp only [Act.put, List.setIfInBounds_toArray, List.set_cons_zero, List.set_cons_succ]
      refine wpAnyH_ready (rs := [5]) (by kernel_rfl) (by simp) (AllReadyH.cons (i := 5) rfl (fun K' hK => ?_) AllReadyH.nil)
      go_simp
      refine hK.out _ _ (S1.out _ KA.out) (fun _ => ?_)
      clear hK
      refine wpAnyH_ready (rs := [15]) (by kernel_rfl) (by simp) (AllReadyH.cons (i := 15) rfl (fun K' hK => ?_) AllReadyH.nil)
      refine step_append_at (by rfl) (.tmp 35) (.tmp 44) 39 (by rfl) W.heap.size 27 t0 zE 4 32 Try.underlying39 hi hz0 hz1 hz2 rfl (by decide) (.slice (some ⟨W.heap.size, 0, none⟩) 0 0) 0 [] (by rfl) O1.out ⟨g, 0, none⟩ p _ (flat (L.take p)) (by rfl) LT.out (N1.out _ KA.out) (flat_one _) M.out.1 M.out.2.1 M.out.2.2.2.2.1 ?_
      intro v1 w2 ho1 hg1 hi1 hb1
      have hK2 := K1.out _ _ _ KA.out hg1 M.out.2.2.2.2.2
      refine hK.out _ _ (S1.out _ hK2) (fun _ => ?_)
      clear hK
      change wpAnyH _ _ _ _ _ _ _ (Act.put _ (some 45) _) _
      simp only [Act.put, List.setIfInBounds_toArray, List.set_cons_zero, List.set_cons_succ]
      refine wpAnyH_ready (rs := [26]) (by kernel_rfl) (by simp) (AllReadyH.cons (i := 26) rfl (fun K' hK => ?_) AllReadyH.nil)
      refine step_append_at (by rfl) (.tmp 45) (.tmp 55) 39 (by rfl) W.heap.size 27 t0 zE 4 32 Try.underlying39 hi hz0 hz1 hz2 rfl (by decide) v1 (0 + p) _ (by rfl) ho1 _ 0 _ (flat (L.drop (p + 1))) (by rfl) LD1.out (N2.out _ hK2) (flat_one _) M1.out M2.out hK2.size ?_
      intro v2 w3 ho2 hg2 hi2 hb2
      have hK3 := K1.out _ _ _ hK2 hg2 (fun k e => (ho1.lt k e).1)
      refine hK.out _ _ (S1.out _ hK3) (fun _ => ?_)
      clear hK
      change wpAnyH _ _ _ _ _ _ _ (Act.put _ (some 56) _) _
      simp only [Act.put, List.setIfInBounds_toArray, List.set_cons_zero, List.set_cons_succ]
      obtain ⟨g2, cap2, rest2, rfl, hq⟩ := own_blk ho2 (fun e => by have := (hi1.1 (hi2.1 e).1).1; cases this)
      obtain ⟨hF3, hF4⟩ := F1.out _ hK3
      obtain ⟨hS5, hS6⟩ := S1.out _ hK3
      refine wpAnyH_take (i := 27) (v := ?_) rfl (by kernel_rfl) (by kernel_rfl) (by kernel_rfl) (fun _ _ _ h => h) (Or.inl ⟨by rfl, ?_⟩) (S1.out _ hK3) ?_
      rotate_left
      · (intro w hSw; obtain ⟨q1, q2⟩ := hSw; go_simp; try with_reducible rfl)
      simp only [Act.put, List.setIfInBounds_toArray, List.set_cons_zero, List.set_cons_succ]
      refine wpAnyH_done (by kernel_rfl) ?_ _
      refine Pop.before_normal ?_
      refine wpOp_step (i := 28) rfl (fun K' hK => ?_)
      have HO2 := hid ho2
      have HK3 := hid hK3
      clear ho1 ho2 hg1 hg2 hi1 hi2 hb1 hb2 hK2 hK3 hq hS0
      go_simp
      refine hK _ _ ?_
      obtain ⟨l0, l1, l2, l3, l4, l5⟩ := (Blk.ot' (HL4.out.mod HK3.out (no _)) hneL s (.slice (some ⟨g2, 0, none⟩) p cap2)).four
      obtain ⟨r0, r1, r2, r3, r4, r5⟩ := (Blk.ot' (HL9.out.mod HK3.out (no _)) hneR s (.slice (some ⟨g2, 0, none⟩) p cap2)).four
      have HL := hid (Blk.ot' (HL4.out.mod HK3.out (no _)) hneL s (.slice (some ⟨g2, 0, none⟩) p cap2))
      go_wp2
      have hLL : (L.take p ++ L.drop (p + 1)).length = p := by rw [List.length_append, List.length_take, List.length_drop]; omega
      have ho4 := HO2.out
      rw [show 0 + p + 0 = p by omega, List.nil_append] at ho4
      have ho5 : w3.ownsRow W.heap.size 27 4 (.slice (some ⟨g2, 0, none⟩) p cap2) (L.take p ++ L.drop (p + 1)).length (flat (L.take p ++ L.drop (p + 1))) := by
        rw [hLL]
        have : flat (L.take p ++ L.drop (p + 1)) = flat (L.take p) ++ flat (L.drop (p + 1)) := by unfold flat; rw [List.flatMap_append]
        rw [this]
        exact ho4
      refine bodyPost_ret (res_eu (e := o) rfl _ rfl rfl (Blk.setE HL.out o)) rfl ⟨rfl, ?_⟩
      rw [HX.out]
      exact HS.out.newrowB w3 _ _ _ W.heap.size (fun k => k = w.heap.size) (hkW.trans HK3.out (fun _ _ e => e)) hwW ho5 (Keep.set4 (Keep.refl (fun k => k = w.heap.size) _) (fun _ => rfl) _ _ _ _ _ _ _ _) (fun k hk => by subst hk; exact ⟨Nat.le_refl _, HL4.out.lt⟩)
    · refine Pop.wp_region_pop (m := 28) (S := fun w' => w'.cell? ⟨br, 1, none⟩ = some (.slice (some ⟨ba, 0, none⟩) n cap) ∧ w'.cell? ⟨ba, s, none⟩ = some (.slice (some ⟨g, 0, none⟩) L.length rcap)) (by kernel_rfl) (by kernel_rfl) ?_
      have hS0 := S1.out _ ((Keep.refl No W).drew)
      refine wpAnyH_take (i := 0) (v := ?_) rfl (by kernel_rfl) (by kernel_rfl) (by kernel_rfl) (fun _ _ _ h => h) (Or.inl ⟨by rfl, ?_⟩) hS0 ?_
      rotate_left
      · (intro w hSw; obtain ⟨q1, q2⟩ := hSw; go_simp; try with_reducible rfl)
      simp only [Act.put, List.setIfInBounds_toArray, List.set_cons_zero, List.set_cons_succ]
      refine wpAnyH_take (i := 1) (v := ?_) rfl (by kernel_rfl) (by kernel_rfl) (by kernel_rfl) (fun _ _ _ h => h) (Or.inl ⟨by rfl, ?_⟩) hS0 ?_
      rotate_left
      · (intro w hSw; obtain ⟨q1, q2⟩ := hSw; go_simp; try with_reducible rfl)
      simp only [Act.put, List.setIfInBounds_toArray, List.set_cons_zero, List.set_cons_succ]
      refine wpAnyH_take (i := 2) (v := ?_) rfl (by kernel_rfl) (by kernel_rfl) (by kernel_rfl) (fun _ _ _ h => h) (Or.inl ⟨by rfl, ?_⟩) hS0 ?_
      rotate_left
      · (intro w hSw; obtain ⟨q1, q2⟩ := hSw; go_simp; try with_reducible rfl)
      simp only [Act.put, List.setIfInBounds_toArray, List.set_cons_zero, List.set_cons_succ]
      refine wpAnyH_take (i := 3) (v := ?_) rfl (by kernel_rfl) (by kernel_rfl) (by kernel_rfl) (fun _ _ _ h => h) (Or.inl ⟨by rfl, ?_⟩) hS0 ?_
      rotate_left
      · (intro w hSw; obtain ⟨q1, q2⟩ := hSw; go_simp; try with_reducible rfl)
      simp only [Act.put, List.setIfInBounds_toArray, List.set_cons_zero, List.set_cons_succ]
      refine wpAnyH_take (i := 4) (v := ?_) rfl (by kernel_rfl) (by kernel_rfl) (by kernel_rfl) (fun _ _ _ h => h) (Or.inl ⟨by rfl, ?_⟩) hS0 ?_
      rotate_left
      · (intro w hSw; obtain ⟨q1, q2⟩ := hSw; go_simp; try with_reducible rfl)
      simp only [Act.put, List.setIfInBounds_toArray, List.set_cons_zero, List.set_cons_succ]
      refine wpAnyH_take (i := 6) (v := ?_) rfl (by kernel_rfl) (by kernel_rfl) (by kernel_rfl) (fun _ _ _ h => h) (Or.inl ⟨by rfl, ?_⟩) hS0 ?_
      rotate_left
      · (intro w hSw; obtain ⟨q1, q2⟩ := hSw; go_simp; try with_reducible rfl)
      simp only [Act.put, List.setIfInBounds_toArray, List.set_cons_zero, List.set_cons_succ]
      refine wpAnyH_take (i := 7) (v := ?_) rfl (by kernel_rfl) (by kernel_rfl) (by kernel_rfl) (fun _ _ _ h => h) (Or.inl ⟨by rfl, ?_⟩) hS0 ?_
      rotate_left
      · (intro w hSw; obtain ⟨q1, q2⟩ := hSw; go_simp; try with_reducible rfl)
      simp only [Act.put, List.setIfInBounds_toArray, List.set_cons_zero, List.set_cons_succ]
      refine wpAnyH_take (i := 8) (v := ?_) rfl (by kernel_rfl) (by kernel_rfl) (by kernel_rfl) (fun _ _ _ h => h) (Or.inl ⟨by rfl, ?_⟩) hS0 ?_
      rotate_left
      · (intro w hSw; obtain ⟨q1, q2⟩ := hSw; go_simp; try with_reducible rfl)
      simp only [Act.put, List.setIfInBounds_toArray, List.set_cons_zero, List.set_cons_succ]
      refine wpAnyH_take (i := 9) (v := ?_) rfl (by kernel_rfl) (by kernel_rfl) (by kernel_rfl) (fun _ _ _ h => h) (Or.inl ⟨by rfl, ?_⟩) hS0 ?_
      rotate_left
      · (intro w hSw; obtain ⟨q1, q2⟩ := hSw; go_simp; try with_reducible rfl)
      simp only [Act.put, List.setIfInBounds_toArray, List.set_cons_zero, List.set_cons_succ]
      refine wpAnyH_take (i := 10) (v := ?_) rfl (by kernel_rfl) (by kernel_rfl) (by kernel_rfl) (fun _ _ _ h => h) (Or.inl ⟨by rfl, ?_⟩) hS0 ?_
      rotate_left
      · (intro w hSw; obtain ⟨q1, q2⟩ := hSw; go_simp; try with_reducible rfl)
      simp only [Act.put, List.setIfInBounds_toArray, List.set_cons_zero, List.set_cons_succ]
      refine wpAnyH_take (i := 11) (v := ?_) rfl (by kernel_rfl) (by kernel_rfl) (by kernel_rfl) (fun _ _ _ h => h) (Or.inl ⟨by rfl, ?_⟩) hS0 ?_
      rotate_left
      · (intro w hSw; obtain ⟨q1, q2⟩ := hSw; go_simp; try with_reducible rfl)
      simp only [Act.put, List.setIfInBounds_toArray, List.set_cons_zero, List.set_cons_succ]
      refine wpAnyH_take (i := 12) (v := ?_) rfl (by kernel_rfl) (by kernel_rfl) (by kernel_rfl) (fun _ _ _ h => h) (Or.inl ⟨by rfl, ?_⟩) hS0 ?_
      rotate_left
      · (intro w hSw; obtain ⟨q1, q2⟩ := hSw; go_simp; try with_reducible rfl)
      simp only [Act.put, List.setIfInBounds_toArray, List.set_cons_zero, List.set_cons_succ]
      refine wpAnyH_take (i := 13) (v := ?_) rfl (by kernel_rfl) (by kernel_rfl) (by kernel_rfl) (fun _ _ _ h => h) (Or.inl ⟨by rfl, ?_⟩) hS0 ?_
      rotate_left
      · (intro w hSw; obtain ⟨q1, q2⟩ := hSw; go_simp; try with_reducible rfl)
      simp only [Act.put, List.setIfInBounds_toArray, List.set_cons_zero, List.set_cons_succ]
      refine wpAnyH_take (i := 14) (v := ?_) rfl (by kernel_rfl) (by kernel_rfl) (by kernel_rfl) (fun _ _ _ h => h) (Or.inl ⟨by rfl, ?_⟩) hS0 ?_
      rotate_left
      · (intro w hSw; obtain ⟨q1, q2⟩ := hSw; go_simp; try with_reducible rfl)
      simp only [Act.put, List.setIfInBounds_toArray, List.set_cons_zero, List.set_cons_succ]
      refine wpAnyH_take (i := 16) (v := ?_) rfl (by kernel_rfl) (by kernel_rfl) (by kernel_rfl) (fun _ _ _ h => h) (Or.inl ⟨by rfl, ?_⟩) hS0 ?_
      rotate_left
      · (intro w hSw; obtain ⟨q1, q2⟩ := hSw; go_simp; try with_reducible rfl)
      simp only [Act.put, List.setIfInBounds_toArray, List.set_cons_zero, List.set_cons_succ]
      refine wpAnyH_take (i := 17) (v := ?_) rfl (by kernel_rfl) (by kernel_rfl) (by kernel_rfl) (fun _ _ _ h => h) (Or.inl ⟨by rfl, ?_⟩) hS0 ?_
      rotate_left
      · (intro w hSw; obtain ⟨q1, q2⟩ := hSw; go_simp; try with_reducible rfl)
      simp only [Act.put, List.setIfInBounds_toArray, List.set_cons_zero, List.set_cons_succ]
      refine wpAnyH_take (i := 18) (v := ?_) rfl (by kernel_rfl) (by kernel_rfl) (by kernel_rfl) (fun _ _ _ h => h) (Or.inl ⟨by rfl, ?_⟩) hS0 ?_
      rotate_left
      · (intro w hSw; obtain ⟨q1, q2⟩ := hSw; go_simp; try with_reducible rfl)
      simp only [Act.put, List.setIfInBounds_toArray, List.set_cons_zero, List.set_cons_succ]
      refine wpAnyH_take (i := 19) (v := ?_) rfl (by kernel_rfl) (by kernel_rfl) (by kernel_rfl) (fun _ _ _ h => h) (Or.inl ⟨by rfl, ?_⟩) hS0 ?_
      rotate_left
      · (intro w hSw; obtain ⟨q1, q2⟩ := hSw; go_simp; try with_reducible rfl)
      simp only [Act.put, List.setIfInBounds_toArray, List.set_cons_zero, List.set_cons_succ]
      refine wpAnyH_take (i := 20) (v := ?_) rfl (by kernel_rfl) (by kernel_rfl) (by kernel_rfl) (fun _ _ _ h => h) (Or.inl ⟨by rfl, ?_⟩) hS0 ?_
      rotate_left
      · (intro w hSw; obtain ⟨q1, q2⟩ := hSw; go_simp; try with_reducible rfl)
      simp only [Act.put, List.setIfInBounds_toArray, List.set_cons_zero, List.set_cons_succ]
      refine wpAnyH_take (i := 21) (v := ?_) rfl (by kernel_rfl) (by kernel_rfl) (by kernel_rfl) (fun _ _ _ h => h) (Or.inl ⟨by rfl, ?_⟩) hS0 ?_
      rotate_left
      · (intro w hSw; obtain ⟨q1, q2⟩ := hSw; go_simp; try with_reducible rfl)
      simp only [Act.put, List.setIfInBounds_toArray, List.set_cons_zero, List.set_cons_succ]
      refine wpAnyH_take (i := 22) (v := ?_) rfl (by kernel_rfl) (by kernel_rfl) (by kernel_rfl) (fun _ _ _ h => h) (Or.inl ⟨by rfl, ?_⟩) hS0 ?_
      rotate_left
      · (intro w hSw; obtain ⟨q1, q2⟩ := hSw; go_simp; try with_reducible rfl)
      simp only [Act.put, List.setIfInBounds_toArray, List.set_cons_zero, List.set_cons_succ]
      refine wpAnyH_take (i := 23) (v := ?_) rfl (by kernel_rfl) (by kernel_rfl) (by kernel_rfl) (fun _ _ _ h => h) (Or.inl ⟨by rfl, ?_⟩) hS0 ?_
      rotate_left
      · (intro w hSw; obtain ⟨q1, q2⟩ := hSw; go_simp; try with_reducible rfl)
      simp only [Act.put, List.setIfInBounds_toArray, List.set_cons_zero, List.set_cons_succ]
      refine wpAnyH_take (i := 24) (v := ?_) rfl (by kernel_rfl) (by kernel_rfl) (by kernel_rfl) (fun _ _ _ h => h) (Or.inl ⟨by rfl, ?_⟩) hS0 ?_
      rotate_left
      · (intro w hSw; obtain ⟨q1, q2⟩ := hSw; go_simp; try with_reducible rfl)
      simp only [Act.put, List.setIfInBounds_toArray, List.set_cons_zero, List.set_cons_succ]
      refine wpAnyH_take (i := 25) (v := ?_) rfl (by kernel_rfl) (by kernel_rfl) (by kernel_rfl) (fun _ _ _ h => h) (Or.inl ⟨by rfl, ?_⟩) hS0 ?_
      rotate_left
      · (intro w hSw; obtain ⟨q1, q2⟩ := hSw; go_simp; try with_reducible rfl)
      simp only [Act.put, List.setIfInBounds_toArray, List.set_cons_zero, List.set_cons_succ]
      refine wpAnyH_ready (rs := [5]) (by kernel_rfl) (by simp) (AllReadyH.cons (i := 5) rfl (fun K' hK => ?_) AllReadyH.nil)
      go_simp
      refine hK.out _ _ (S1.out _ KA.out) (fun _ => ?_)
      clear hK
      refine wpAnyH_ready (rs := [15]) (by kernel_rfl) (by simp) (AllReadyH.cons (i := 15) rfl (fun K' hK => ?_) AllReadyH.nil)
      refine step_append_at (by rfl) (.tmp 35) (.tmp 44) 39 (by rfl) W.heap.size 27 t0 zE 4 32 Try.underlying39 hi hz0 hz1 hz2 rfl (by decide) (.slice (some ⟨W.heap.size, 0, none⟩) 0 0) 0 [] (by rfl) O1.out ⟨g, 0, none⟩ p _ (flat (L.take p)) (by rfl) LT.out (N1.out _ KA.out) (flat_one _) M.out.1 M.out.2.1 M.out.2.2.2.2.1 ?_
      intro v1 w2 ho1 hg1 hi1 hb1
      have hK2 := K1.out _ _ _ KA.out hg1 M.out.2.2.2.2.2
      refine hK.out _ _ (S1.out _ hK2) (fun _ => ?_)
      clear hK
      change wpAnyH _ _ _ _ _ _ _ (Act.put _ (some 45) _) _
      simp only [Act.put, List.setIfInBounds_toArray, List.set_cons_zero, List.set_cons_succ]
      refine wpAnyH_ready (rs := [26]) (by kernel_rfl) (by simp) (AllReadyH.cons (i := 26) rfl (fun K' hK => ?_) AllReadyH.nil)
      refine step_append_at (by rfl) (.tmp 45) (.tmp 55) 39 (by rfl) W.heap.size 27 t0 zE 4 32 Try.underlying39 hi hz0 hz1 hz2 rfl (by decide) v1 (0 + p) _ (by rfl) ho1 _ (L.length - (p + 1)) _ (flat (L.drop (p + 1))) (by rfl) LD.out (N2.out _ hK2) (flat_one _) M.out.2.2.1 M.out.2.2.2.1 hK2.size ?_
      intro v2 w3 ho2 hg2 hi2 hb2
      have hK3 := K1.out _ _ _ hK2 hg2 (fun k e => (ho1.lt k e).1)
      refine hK.out _ _ (S1.out _ hK3) (fun _ => ?_)
      clear hK
      change wpAnyH _ _ _ _ _ _ _ (Act.put _ (some 56) _) _
      simp only [Act.put, List.setIfInBounds_toArray, List.set_cons_zero, List.set_cons_succ]
      obtain ⟨g2, cap2, rest2, rfl, hq⟩ := own_blk ho2 (fun e => by have := (hi1.1 (hi2.1 e).1).1; cases this)
      obtain ⟨hF3, hF4⟩ := F1.out _ hK3
      obtain ⟨hS5, hS6⟩ := S1.out _ hK3
      refine wpAnyH_take (i := 27) (v := ?_) rfl (by kernel_rfl) (by kernel_rfl) (by kernel_rfl) (fun _ _ _ h => h) (Or.inl ⟨by rfl, ?_⟩) (S1.out _ hK3) ?_
      rotate_left
      · (intro w hSw; obtain ⟨q1, q2⟩ := hSw; go_simp; try with_reducible rfl)
      simp only [Act.put, List.setIfInBounds_toArray, List.set_cons_zero, List.set_cons_succ]
      refine wpAnyH_done (by kernel_rfl) ?_ _
      refine Pop.before_normal ?_
      refine wpOp_step (i := 28) rfl (fun K' hK => ?_)
      have HO2 := hid ho2
      have HK3 := hid hK3
      clear ho1 ho2 hg1 hg2 hi1 hi2 hb1 hb2 hK2 hK3 hq hS0
      go_simp
      refine hK _ _ ?_
      obtain ⟨l0, l1, l2, l3, l4, l5⟩ := (Blk.ot' (HL4.out.mod HK3.out (no _)) hneL s (.slice (some ⟨g2, 0, none⟩) (p + (L.length - (p + 1))) cap2)).four
      obtain ⟨r0, r1, r2, r3, r4, r5⟩ := (Blk.ot' (HL9.out.mod HK3.out (no _)) hneR s (.slice (some ⟨g2, 0, none⟩) (p + (L.length - (p + 1))) cap2)).four
      have HL := hid (Blk.ot' (HL4.out.mod HK3.out (no _)) hneL s (.slice (some ⟨g2, 0, none⟩) (p + (L.length - (p + 1))) cap2))
      go_wp2
      have hLL : (L.take p ++ L.drop (p + 1)).length = (p + (L.length - (p + 1))) := by rw [List.length_append, List.length_take, List.length_drop]; omega
      have ho4 := HO2.out
      rw [show 0 + p + (L.length - (p + 1)) = (p + (L.length - (p + 1))) by omega, List.nil_append] at ho4
      have ho5 : w3.ownsRow W.heap.size 27 4 (.slice (some ⟨g2, 0, none⟩) (p + (L.length - (p + 1))) cap2) (L.take p ++ L.drop (p + 1)).length (flat (L.take p ++ L.drop (p + 1))) := by
        rw [hLL]
        have : flat (L.take p ++ L.drop (p + 1)) = flat (L.take p) ++ flat (L.drop (p + 1)) := by unfold flat; rw [List.flatMap_append]
        rw [this]
        exact ho4
      refine bodyPost_ret (res_eu (e := o) rfl _ rfl rfl (Blk.setE HL.out o)) rfl ⟨rfl, ?_⟩
      rw [HX.out]
      exact HS.out.newrowB w3 _ _ _ W.heap.size (fun k => k = w.heap.size) (hkW.trans HK3.out (fun _ _ e => e)) hwW ho5 (Keep.set4 (Keep.refl (fun k => k = w.heap.size) _) (fun _ => rfl) _ _ _ _ _ _ _ _) (fun k hk => by subst hk; exact ⟨Nat.le_refl _, HL4.out.lt⟩)
end
end Go.Proofs.Ytaijfgajcmopfaa.Y6
/- The document's index: RemoveIf, Len. -/
set_option linter.unusedVariables false
set_option linter.unusedSimpArgs false
namespace Go.Proofs.Ytaijfgajcmopfaa.Y7
open Go.RowKit Go.Shelf V Rh T W1 W2 W3 W4 W6 Rf X1 X2 X4 X5 X6 Pl Y1 Y2 Y3 Y4 Y5 Y6

section
variable {w : World} {br ba most : Nat} {vs : List Value} {Ls : List (List Ent)}

set_option maxHeartbeats 400000 in
theorem rremIf_no (p : Value) (h at' : Int) (en : Ent) (b : Bool) (w : World)
    (hget : ∀ W, Keep No w W → Calls Try.prog 33 #[p, .int .u64 h] W fun e w' => e = .returned (.tuple #[valE en, .bool b]) ∧ Keep No W w')
    (hno : b = false ∨ b = true ∧ (en.a != at') = true) :
    Calls Try.prog 36 #[p, .int .u64 h, .int .u64 at'] w fun e w' => e = .returned (.bool false) ∧ Keep No w w' := by
  unfold valE at *
  rcases hno with rfl | ⟨rfl, hne⟩
  all_goals
    go_enter Try.func36, Try.ntmps36
    go_wp2_with (go_at_call 33; refine (hget _ (Keep.refl _ _)).mono ?_; rintro e w1 ⟨rfl, hk⟩; have hk1 := hid hk; clear hk)
    go_ret
    exact ⟨rfl, hk1.out.alloc _⟩

set_option maxHeartbeats 400000 in
theorem rremIf_yes (p : Value) (h at' : Int) (en : Ent) (v1 v2 : Value) (w : World) (R : World → World → Prop)
    (hget : ∀ W, Keep No w W → Calls Try.prog 33 #[p, .int .u64 h] W fun e w' => e = .returned (.tuple #[valE en, .bool true]) ∧ Keep No W w')
    (hrem : ∀ W, Keep No w W → Calls Try.prog 35 #[p, .int .u64 h] W fun e w' => e = .returned (.tuple #[v1, v2]) ∧ R W w')
    (hno : (en.a != at') = false) :
    Calls Try.prog 36 #[p, .int .u64 h, .int .u64 at'] w fun e w' => e = .returned (.bool true) ∧ ∃ W, Keep No w W ∧ R W w' := by
  unfold valE at *
  go_enter Try.func36, Try.ntmps36
  go_wp2_with (first | (go_at_call 33; refine (hget _ (Keep.refl _ _)).mono ?_; rintro e w1 ⟨rfl, hk⟩; have hk1 := hid hk; clear hk) | (go_at_call 35; refine (hrem _ (hk1.out.alloc _)).mono ?_; rintro e w2 ⟨rfl, hA⟩; have HA := hid hA; clear hA))
  go_ret
  exact ⟨rfl, _, hk1.out.alloc _, HA.out⟩

theorem rremIf_any (hX : RIdx w br ba vs most Ls) (hG : GoodL most Ls) (h a : Int) (hh : 0 ≤ h) (hh2 : h < 18446744073709551616) :
    Calls Try.prog 36 #[ptr br, .int .u64 h, .int .u64 a] w fun e w' => e = .returned (.bool (xremIf h a Ls).1) ∧ RThen w w' (ptr br) most (xremIf h a Ls).2 (RFoot br ba vs) := by
  have hkeep : ∀ W, Keep No w W → RIdx W br ba vs most Ls := fun W hW => hX.keep hW (fun _ _ => no _)
  have hg : ∀ W, Keep No w W → _ := fun W hW => rget_any (hkeep W hW) hG h hh hh2
  have hst : ∀ W, Keep No w W → RThen w W (ptr br) most Ls (RFoot br ba vs) := fun W hW => RHas.stays ⟨_, _, _, rfl, hX, rfl⟩ hW
  cases hx : xget h Ls with
  | none =>
    simp only [xremIf, hx]
    rw [hx] at hg
    exact (rremIf_no _ h a _ _ w hg (.inl rfl)).mono (fun e w' hw => ⟨hw.1, hst _ hw.2⟩)
  | some o =>
    rw [hx] at hg
    by_cases ha : o.a = a
    · simp only [xremIf, hx, ha, if_true]
      refine (rremIf_yes _ h a o _ _ w _ hg (fun W hW => rremove_any (hkeep W hW) hG h hh hh2) (by simp [ha])).mono ?_
      rintro e w' ⟨he, W, hW, hR⟩
      exact ⟨he, RThen.after hW hR⟩
    · simp only [xremIf, hx, ha, if_false]
      exact (rremIf_no _ h a _ _ w hg (.inr ⟨rfl, by simpa using ha⟩)).mono (fun e w' hw => ⟨hw.1, hst _ hw.2⟩)

set_option maxRecDepth 100000 in
set_option maxHeartbeats 1000000 in
theorem rlen_any (hX : RIdx w br ba vs most Ls) (k : Int) (hk : -9223372036854775808 ≤ k) (hk2 : k < 9223372036854775808) :
    Calls Try.prog 41 #[ptr br, .int .i64 k] w fun e w' => e = .returned (.int .i64 (xall k Ls).length) ∧ w = w' := by
  obtain ⟨cap, hcap, hb⟩ := hX.head
  obtain ⟨z0, c0, c1, f0⟩ := hb.two
  by_cases h0 : k < 0
  · have h1 : decide (k < 0) = true := by simpa using h0
    have H : Hid ((xall k Ls).length = 0) := by show _ = _; rw [xall, if_neg (by omega)]; rfl
    clear hX hb h0 hcap hk hk2
    unfold ptr
    go_enter Try.func41, Try.ntmps41
    go_wp2
    go_ret
    exact ⟨by rw [H.out]; rfl, rfl⟩
  · have h1 : decide (k < 0) = false := by simpa using h0
    obtain ⟨m, rfl⟩ := Int.eq_ofNat_of_zero_le (show 0 ≤ k by omega)
    by_cases h2 : m < Ls.length
    · obtain ⟨cap2, y0, y1, y2, y3, y4, y5, y6, y7, y9⟩ := Y4.RIdx.opn hX h2
      have H : Hid (xall m Ls = Ls.getD m []) := by show _ = _; rw [xall, if_pos (by omega)]; rfl
      have h3 : (m : Int) < Ls.length := by omega
      have h4 : (0 : Int) ≤ m := by omega
      have h5 : decide ((Ls.length : Int) ≤ (m : Int)) = false := by simp; omega
      rw [H.out]
      generalize Ls.getD m [] = L at *
      have hv : ∃ a c, vs.getD m nilS = .slice a L.length c := by
        rcases y9 with ⟨h, rfl⟩ | ⟨g, rc, rest, h, _⟩
        · exact ⟨_, _, h⟩
        · exact ⟨_, _, h⟩
      obtain ⟨a, c, hv⟩ := hv
      rw [hv] at y7
      clear hX hb h0 hcap hk hk2 y9 hv H
      unfold ptr
      go_enter Try.func41, Try.ntmps41
      go_wp2
      go_ret
      exact ⟨rfl, rfl⟩
    · have H : Hid ((xall m Ls).length = 0) := by show _ = _; rw [xall, if_neg (by omega)]; rfl
      have h6 : Ls.length ≤ m := by omega
      have h5 : decide ((Ls.length : Int) ≤ (m : Int)) = true := by simp; omega
      clear hX hb h0 h2 hcap hk hk2
      unfold ptr
      go_enter Try.func41, Try.ntmps41
      go_wp2
      go_ret
      exact ⟨by rw [H.out]; rfl, rfl⟩
end
end Go.Proofs.Ytaijfgajcmopfaa.Y7
/- append onto a row of the call's own, of whatever there is in a slice, nil or not: as a law for a plain region, and for a step of a drawn one. -/
set_option linter.unusedVariables false
set_option linter.unusedSimpArgs false
namespace Go.Proofs.Ytaijfgajcmopfaa.Ap
open Go V

/-- what is appended: m elements, their cells 'news', in the slice v -/
def Src (w : World) (v : Value) (m : Nat) (news : List Value) : Prop := (v = .slice none 0 0 ∧ m = 0 ∧ news = []) ∨ ∃ ad c, v = .slice (some ad) m c ∧ ∀ j u, news[j]? = some u → w.cell? (ad.add j) = some u

theorem own_slice {w : World} {base n k : Nat} {e : TypeId} {v : Value} {xs : List Value} (h : w.ownsRow base e k v n xs) : ∃ a c, v = .slice a n c := by
  rcases h.2 with ⟨rfl, rfl⟩ | ⟨g, cap, cur, rfl, _⟩
  · exact ⟨_, _, rfl⟩
  · exact ⟨_, _, rfl⟩

theorem own_some {w : World} {base n k : Nat} {e : TypeId} {v : Value} {xs : List Value} (h : w.ownsRow base e k v n xs) : ∃ a m c, v = .slice a m c :=
  let ⟨a, c, h⟩ := own_slice h; ⟨a, n, c, h⟩

theorem Src.one (w : World) (x : Value) (t : TypeId) : Src (w.alloc (.cells #[x] t)) (.slice (some ⟨w.heap.size, 0, none⟩) 1 1) 1 [x] := .inr ⟨_, _, rfl, cell_one_new w x t⟩

theorem Src.blk {w : World} {b m c : Nat} {cs : List Value} {t : TypeId} (h : Blk w b cs t) : Src w (.slice (some ⟨b, 0, none⟩) m c) m cs := .inr ⟨_, _, rfl, fun j u hu => by rw [V.add_at, Nat.zero_add, h.cell]; exact hu⟩

section
variable {P : Program} (w : World)

theorem run_append_src (base : Nat) (t ty e : TypeId) (i : TypeInfo) (z : Value) (size bytes : Nat) (ht : P.underlying t = some (.slice e)) (hi : P.info? e = some i) (hz : i.zero = some z)
    (hsize : i.size = size) (hby : i.bytes = bytes) (hzs : z.cells.size = size) (hsz : 0 < size)
    (v : Value) (n : Nat) (xs : List Value) (hown : w.ownsRow base e size v n xs)
    (x : Value) (m : Nat) (news : List Value) (hx : Src w x m news) (hl : news.length = m * size) (h1 : ∀ u ∈ news, u.oneCell' = true)
    (h63 : n + m ≤ maxLen) (hbytes : (n + m) * bytes ≤ 140737488355328) (hbase : base ≤ w.heap.size) :
    ∃ v' w', (Builtin.append_ #[t, t] ty #[v, x]).run P w = .ok v' w' ∧ w'.ownsRow base e size v' (n + m) (xs ++ news) ∧ w.grownBy w' v.ownBlock ∧
      (v' = .slice none 0 0 ↔ v = .slice none 0 0 ∧ m = 0) ∧ (v'.ownBlock = v.ownBlock ∨ v'.ownBlock = some w.heap.size) := by
  rcases hx with ⟨rfl, rfl, rfl⟩ | ⟨ad, c, rfl, hc⟩
  · exact ⟨v, w, run_append_owned_none w base t ty e i size ht hi v n xs hown, by simpa using hown, ⟨rfl, rfl, rfl, Nat.le_refl _, fun _ _ _ => rfl⟩, by simp, .inl rfl⟩
  · exact run_append_own_at (P := P) w base t ty e i z size bytes ht hi hz hsize hby hzs hsz v n xs hown ad m c news hl hc h1 h63 hbytes hbase

theorem wpList_append_src {ops : Array Oper} {rest : List Oper} {o : Oper} {a : Act} {Q : Exit → Act → World → Prop} (hgd : o.guard = none) (s x : Operand) (t : TypeId)
    (ho : o.op = .call { callee := .builtin .append, args := #[s, x], argTypes := #[t, t] })
    (base : Nat) (e : TypeId) (i : TypeInfo) (z : Value) (size bytes : Nat) (ht : P.underlying t = some (.slice e)) (hi : P.info? e = some i) (hz : i.zero = some z)
    (hsize : i.size = size) (hby : i.bytes = bytes) (hzs : z.cells.size = size) (hsz : 0 < size)
    (v : Value) (n : Nat) (xs : List Value) (hs : a.eval s = v) (hown : w.ownsRow base e size v n xs)
    (y : Value) (m : Nat) (news : List Value) (hx : a.eval x = y) (hy : Src w y m news) (hl : news.length = m * size) (h1 : ∀ u ∈ news, u.oneCell' = true)
    (h63 : n + m ≤ maxLen) (hbytes : (n + m) * bytes ≤ 140737488355328) (hbase : base ≤ w.heap.size)
    (h : ∀ v' w', w'.ownsRow base e size v' (n + m) (xs ++ news) → w.grownBy w' v.ownBlock → (v' = .slice none 0 0 ↔ v = .slice none 0 0 ∧ m = 0) → (v'.ownBlock = v.ownBlock ∨ v'.ownBlock = some w.heap.size) → wpList P ops Q rest (a.put o.dst v') w') :
    wpList P ops Q (o :: rest) a w := by
  refine wpList_plain hgd fun K hK => ?_
  obtain ⟨v', w', hr, h2, h3, h4, h5⟩ := run_append_src (P := P) w base t o.type e i z size bytes ht hi hz hsize hby hzs hsz v n xs hown y m news hy hl h1 h63 hbytes hbase
  unfold Oper.wp execOp
  simp only [ho, resolve, invoke, builtin, Sem.run_bind, Sem.run_pure, Result.andThen_ok, List.map_toArray, List.map_cons, List.map_nil, hs, hx, hr]
  exact hK _ _ (h v' w' h2 h3 h4 h5)

theorem step_append_src {ops : Array Oper} {o : Oper} {a : Act} {K : Act → World → Prop} {Q : Exit → Act → World → Prop} {E : Prop} (hgd : o.guard = none) (s x : Operand) (t : TypeId)
    (ho : o.op = .call { callee := .builtin .append, args := #[s, x], argTypes := #[t, t] })
    (base : Nat) (e : TypeId) (i : TypeInfo) (z : Value) (size bytes : Nat) (ht : P.underlying t = some (.slice e)) (hi : P.info? e = some i) (hz : i.zero = some z)
    (hsize : i.size = size) (hby : i.bytes = bytes) (hzs : z.cells.size = size) (hsz : 0 < size)
    (v : Value) (n : Nat) (xs : List Value) (hs : a.eval s = v) (hown : w.ownsRow base e size v n xs)
    (y : Value) (m : Nat) (news : List Value) (hx : a.eval x = y) (hy : Src w y m news) (hl : news.length = m * size) (h1 : ∀ u ∈ news, u.oneCell' = true)
    (h63 : n + m ≤ maxLen) (hbytes : (n + m) * bytes ≤ 140737488355328) (hbase : base ≤ w.heap.size)
    (h : ∀ v' w', w'.ownsRow base e size v' (n + m) (xs ++ news) → w.grownBy w' v.ownBlock → (v' = .slice none 0 0 ↔ v = .slice none 0 0 ∧ m = 0) → (v'.ownBlock = v.ownBlock ∨ v'.ownBlock = some w.heap.size) → K (a.put o.dst v') w') :
    if Region.wanted o (yielded ops a.tmps) = true then Oper.wp P o a w K Q else E := by
  have hw : Region.wanted o (yielded ops a.tmps) = true := by simp [Region.wanted, hgd]
  rw [if_pos hw]
  obtain ⟨v', w', hr, h2, h3, h4, h5⟩ := run_append_src (P := P) w base t o.type e i z size bytes ht hi hz hsize hby hzs hsz v n xs hown y m news hy hl h1 h63 hbytes hbase
  unfold Oper.wp execOp
  simp only [ho, resolve, invoke, builtin, Sem.run_bind, Sem.run_pure, Result.andThen_ok, List.map_toArray, List.map_cons, List.map_nil, hs, hx, hr]
  exact h v' w' h2 h3 h4 h5
end
end Go.Proofs.Ytaijfgajcmopfaa.Ap
/- The document's index: New, Entries. -/
set_option linter.unusedVariables false
set_option linter.unusedSimpArgs false
namespace Go.Proofs.Ytaijfgajcmopfaa.Y8
open Go.RowKit Go.Shelf V Rh T W1 W2 W3 W4 W6 Rf X1 X2 X3 X4 X5 X6 Pl Y1 Y2 Y3 Y4 Y5 Y6 Ap

set_option maxHeartbeats 400000 in
theorem rnew_arg (n bits most : Int) (w : World) (h : n < 1 ∨ 64 < n) :
    Calls Try.prog 31 #[.int .i64 n, .int .i64 bits, .int .i64 most] w fun e w' => e = .returned (.tuple #[.pointer none, .int .i64 1]) ∧ w = w' := by
  have h' : decide (n < 1) = true ∨ decide (n < 1) = false ∧ decide (64 < n) = true := by simp; omega
  clear h
  rcases h' with h | ⟨h, h2⟩
  all_goals
    go_enter Try.func31, Try.ntmps31
    go_wp2
    go_ret2
    exact ⟨rfl, rfl⟩

set_option maxHeartbeats 400000 in
theorem rnew_bits (n bits most : Int) (w : World) (h1 : 1 ≤ n) (h2 : n ≤ 64) (h : badB bits most) :
    Calls Try.prog 31 #[.int .i64 n, .int .i64 bits, .int .i64 most] w fun e w' => e = .returned (.tuple #[.pointer none, .int .i64 110]) ∧ w = w' := by
  have g1 : decide (n < 1) = false := by simp; omega
  have g2 : decide (64 < n) = false := by simp; omega
  have h' : decide (bits < 2) = true ∨ decide (bits < 2) = false ∧ (decide (most < bits) = true ∨ decide (most < bits) = false ∧ decide (16 < most) = true) := by
    unfold badB at h
    simp
    omega
  clear h
  rcases h' with h | ⟨h, h1 | ⟨h1, h2⟩⟩
  all_goals
    go_enter Try.func31, Try.ntmps31
    go_wp2
    go_ret2
    exact ⟨rfl, rfl⟩

theorem info39 : (Try.prog.info? 39).map (fun i => (i.zero, i.size, i.bytes)) = some (some (.slice none 0 0), 1, 24) := by kernel_rfl

theorem make_rows (N : Nat) (hN : N ≤ 64) (W : World) : (Instr.makeSlice 78 (.int .i64 (N : Int)) (.int .i64 (N : Int))).run Try.prog W = .ok (.slice (some ⟨W.heap.size, 0, none⟩) N N) (W.alloc (.cells (List.replicate N nilS).toArray 39)) := by
  obtain ⟨i0, hi, hz0, hz1, hz2⟩ := info_parts info39
  have := run_make W 78 39 i0 (.slice none 0 0) Try.underlying78 hi hz0 .i64 .i64 N N (by omega) (by omega) (by rw [hz2]; omega) (by omega)
  rw [this, hz1]
  have hm : madeCells #[.slice none 0 0] (N * 1) = (List.replicate N nilS).toArray := by
    rw [Nat.mul_one]
    apply Array.toList_inj.1
    unfold madeCells
    rw [Array.toList_map, Array.toList_range]
    apply List.ext_getElem
    · simp
    · intro i h1 h2
      simp [Nat.mod_one]
  rw [← hm]
  rfl

set_option maxRecDepth 100000 in
set_option maxHeartbeats 400000 in
theorem rnew_any (n bits most : Nat) (w : World) (h1 : 1 ≤ n) (h2 : n ≤ 64) (hb : 2 ≤ bits) (hm : bits ≤ most) (h16 : most ≤ 16) :
    Calls Try.prog 31 #[.int .i64 n, .int .i64 bits, .int .i64 most] w fun e w' => ∃ br ba vs, e = .returned (.tuple #[ptr br, .int .i64 0]) ∧ RIdx w' br ba vs most (List.replicate n []) ∧ (∀ j, RFoot br ba vs j → w.heap.size ≤ j) ∧ Keep No w w' := by
  have g1 : decide ((n : Int) < 1) = false := by simp; omega
  have g2 : decide ((64 : Int) < n) = false := by simp; omega
  have g3 : decide ((bits : Int) < 2) = false := by simp; omega
  have g4 : decide ((most : Int) < (bits : Int)) = false := by simp; omega
  have g6 : decide (most < bits) = false := by simp; omega
  have g5 : decide ((16 : Int) < (most : Int)) = false := by simp; omega
  have hmk := make_rows n h2
  have H1 := hid h1
  have H2 := hid h2
  clear h1 h2 hb hm h16
  obtain ⟨cs, hcs⟩ : ∃ cs, (List.replicate n nilS).toArray = cs := ⟨_, rfl⟩
  rw [hcs] at hmk
  go_enter Try.func31, Try.ntmps31
  go_wp2
  go_ret2
  subst hcs
  refine ⟨w.heap.size + 1, w.heap.size, List.replicate n nilS, rfl, ⟨⟨n, by simp, ?_⟩, ⟨[], ?_⟩, by simp, by simpa using H1.out, by simpa using H2.out, ?_, by omega, ?_, ?_⟩, ?_, ((Keep.refl _ _).alloc _).alloc _⟩
  · have := Blk.new1 (w := w) (o := .cells (List.replicate n nilS).toArray 39) (cs := #[.int .i64 most, .slice (some ⟨w.heap.size, 0, none⟩) n n]) (cl := [.int .i64 most, .slice (some ⟨w.heap.size, 0, none⟩) n n]) 80 rfl
    simpa using this
  · rw [List.append_nil]
    exact (Blk.new' _ rfl).alloc _
  · intro i hi
    have hi' : i < n := by simpa using hi
    have e1 : (List.replicate n nilS).getD i nilS = nilS := by simp [List.getD_eq_getElem?_getD, hi']
    have e2 : (List.replicate n ([] : List Ent)).getD i [] = [] := by simp [List.getD_eq_getElem?_getD, hi']
    rw [e1, e2]
    exact World.ownsRow_nil _ _ _ _
  · intro i hi
    have hi' : i < n := by simpa using hi
    have e1 : (List.replicate n nilS).getD i nilS = nilS := by simp [List.getD_eq_getElem?_getD, hi']
    rw [e1]
    exact ⟨fun e => (by cases e), fun e => (by cases e)⟩
  · intro i j hi hj _ k hk
    have hi' : i < n := by simpa using hi
    have e1 : (List.replicate n nilS).getD i nilS = nilS := by simp [List.getD_eq_getElem?_getD, hi']
    rw [e1] at hk
    cases hk
  · rintro j (rfl | rfl | ⟨i, hi, hk⟩)
    · omega
    · exact Nat.le_refl _
    · have hi' : i < n := by simpa using hi
      have e1 : (List.replicate n nilS).getD i nilS = nilS := by simp [List.getD_eq_getElem?_getD, hi']
      rw [e1] at hk
      cases hk

/-- a row of the document's index, as what is appended -/
theorem RIdx.src {w : World} {br ba most : Nat} {vs : List Value} {Ls : List (List Ent)} (hX : RIdx w br ba vs most Ls) {s : Nat} (hs : s < Ls.length) : Src w (vs.getD s nilS) (Ls.getD s []).length (flat (Ls.getD s [])) := by
  have ho := hX.own s hs
  by_cases hv : vs.getD s nilS = nilS
  · left
    rw [hv] at ho ⊢
    rcases ho.2 with ⟨_, h2⟩ | ⟨g, cap, cur, h1, _⟩
    · have : Ls.getD s [] = [] := List.eq_nil_of_length_eq_zero h2
      rw [this]
      exact ⟨rfl, rfl, rfl⟩
    · cases h1
  · right
    obtain ⟨g, rcap, rest, hg, _, hn, hc, hb, _⟩ := own_blk ho hv
    refine ⟨_, _, hg, fun j u hu => ?_⟩
    rw [add_at, Nat.zero_add, hb.cell, List.getElem?_append_left (List.getElem?_eq_some_iff.1 hu).1]
    exact hu

section
variable {w : World} {br ba most : Nat} {vs : List Value} {Ls : List (List Ent)}

set_option maxRecDepth 100000 in
set_option maxHeartbeats 1000000 in
theorem rentries_any (hX : RIdx w br ba vs most Ls) (hG : GoodL most Ls) (k : Int) :
    Calls Try.prog 60 #[ptr br, .int .i64 k] w fun e w' => ∃ v, e = .returned v ∧ w'.ownsRow w.heap.size 27 4 v (xall k Ls).length (flat (xall k Ls)) ∧ Keep No w w' := by
  obtain ⟨cap, hcap, hb⟩ := hX.head
  obtain ⟨z0, c0, c1, f0⟩ := hb.two
  by_cases h0 : k < 0
  · have h1 : decide (k < 0) = true := by simpa using h0
    have H : Hid (xall k Ls = []) := by show _ = _; rw [xall, if_neg (by omega)]
    clear hX hb h0 hcap
    unfold ptr
    go_enter Try.func60, Try.ntmps60
    go_wp2
    go_ret
    exact ⟨_, rfl, by rw [H.out]; exact World.ownsRow_nil _ _ _ _, Keep.refl _ _⟩
  · have h1 : decide (k < 0) = false := by simpa using h0
    obtain ⟨m, rfl⟩ := Int.eq_ofNat_of_zero_le (show 0 ≤ k by omega)
    by_cases h2 : m < Ls.length
    · obtain ⟨cap2, y0, y1, y2, y3, y4, y5, y6, y7, _⟩ := Y4.RIdx.opn hX h2
      have H : Hid (xall m Ls = Ls.getD m []) := by show _ = _; rw [xall, if_pos (by omega)]; rfl
      have h3 : (m : Int) < Ls.length := by omega
      have h4 : (0 : Int) ≤ m := by omega
      have h5 : decide ((Ls.length : Int) ≤ (m : Int)) = false := by simp; omega
      have hsrc := fun W (hW : Keep No w W) => RIdx.src (hX.keep hW (fun _ _ => no _)) h2
      have hsm := GoodL.small hG h2
      rw [H.out]
      generalize Ls.getD m [] = L at *
      generalize vs.getD m nilS = v at *
      have HS := hid hsrc
      have HM := hid hsm
      clear hX hb h0 hcap H hsrc hsm hG
      obtain ⟨t0, hi, hz0, hz1, hz2⟩ := info_parts info27
      unfold ptr
      go_enter Try.func60, Try.ntmps60
      go_wp2_with (at_builtin; refine wpList_append_src _ rfl (.tmp 16) (.tmp 23) 39 rfl w.heap.size 27 t0 zE 4 32 Try.underlying39 hi hz0 hz1 hz2 rfl (by decide) (.slice (some ⟨w.heap.size, 0, none⟩) 0 0) 0 [] rfl (World.ownsRow_lit w #[] 0 (Nat.le_refl _) (by decide) rfl) v L.length (flat L) rfl (HS.out _ ((Keep.refl _ _).alloc _)) ?c0 (flat_one _) ?c1 ?c2 ?c3 ?c4)
      case c0 => rw [flat_length]; omega
      case c1 => have := HM.out; unfold maxLen; omega
      case c2 => have := HM.out; omega
      case c3 => simp
      case c4 =>
        intro v' w2 h1 h2 h3 h4
        have HO := hid h1
        have HK := hid (((Keep.refl No w).alloc (.cells #[] 27)).grown h2 (fun k e hk => by simp [Value.ownBlock] at e; omega))
        clear h1 h2 h3 h4
        go_wp2
        go_ret
        refine ⟨v', rfl, ?_, HK.out⟩
        have := HO.out
        simpa using this
    · have H : Hid (xall m Ls = []) := by show _ = _; rw [xall, if_neg (by omega)]
      have h6 : Ls.length ≤ m := by omega
      have h5 : decide ((Ls.length : Int) ≤ (m : Int)) = true := by simp; omega
      clear hX hb h0 h2 hcap
      unfold ptr
      go_enter Try.func60, Try.ntmps60
      go_wp2
      go_ret
      exact ⟨_, rfl, by rw [H.out]; exact World.ownsRow_nil _ _ _ _, Keep.refl _ _⟩
end
end Go.Proofs.Ytaijfgajcmopfaa.Y8
/- The document's index: Purge. -/
set_option linter.unusedVariables false
set_option linter.unusedSimpArgs false
namespace Go.Proofs.Ytaijfgajcmopfaa.Y9
open Go.RowKit Go.Shelf V Rh T W1 W2 W3 W4 W6 Rf X1 X2 X3 X4 X5 X6 Pl Y1 Y2 Y3 Y4 Y5 Y6 Y8 Ap

def notHit (r : Int) (e : Ent) : Bool := !phit r e
theorem take_more {L : List Ent} {i : Nat} (hi : i < L.length) : L.take (i + 1) = L.take i ++ [gt L i] := by
  rw [List.take_succ_eq_append_getElem hi]
  simp [gt, hi]
theorem flat_snoc (L : List Ent) (e : Ent) : flat (L ++ [e]) = flat L ++ cellsE e := by simp [flat]
theorem filter_snoc {f : Ent → Bool} (L : List Ent) (e : Ent) : (L ++ [e]).filter f = L.filter f ++ if f e then [e] else [] := by
  rw [List.filter_append]
  congr 1
  by_cases h : f e = true
  · simp [h]
  · simp [h]

section
variable {w : World} {br ba most : Nat} {vs : List Value} {Ls : List (List Ent)}

set_option maxRecDepth 100000 in
set_option maxHeartbeats 2000000 in
theorem rpurge_on (hX : RIdx w br ba vs most Ls) (hG : GoodL most Ls) (m : Nat) (h2 : m < Ls.length) (r : Int) (hr : 0 ≤ r) (hr2 : r < 9223372036854775808) :
    Calls Try.prog 39 #[ptr br, .int .i64 m, .int .i64 r] w fun e w' => e = .returned (.int .i64 ((Ls.getD m []).countP (phit r) : Nat)) ∧ RThen w w' (ptr br) most (Ls.set m ((Ls.getD m []).filter (notHit r))) (RFoot br ba vs) := by
  obtain ⟨cap2, y0, y1, y2, y3, y4, y5, y6, y7, y9⟩ := Y4.RIdx.opn hX h2
  have hnew : ∀ w1 v' L', Keep No w w1 → w1.ownsRow w.heap.size 27 4 v' L'.length (flat L') → RThen w (w1.setCell ⟨ba, m, none⟩ v') (ptr br) most (Ls.set m L') (RFoot br ba vs) := fun w1 v' L' h1 h3 => Y4.RIdx.newrow hX h2 h1 h3
  have hsm := GoodL.small hG h2
  have hok := (hG.2 m h2).2.1
  have g1 : decide ((m : Int) < 0) = false := by simp
  have g2 : decide ((Ls.length : Int) ≤ (m : Int)) = false := by simp; omega
  have g6 : decide (Ls.length ≤ m) = false := by simp; omega
  have g3 : decide (r < 0) = false := by simp; omega
  have g4 : (m : Int) < Ls.length := by omega
  have g5 : (0 : Int) ≤ (m : Int) := by omega
  have hwr : IntKind.u64.wrap r = r := IntWalk.u64_in _ ⟨by omega, by omega⟩
  have hph : ∀ x : Ent, phit r x = (x.a / 281474976710656 == r) := fun x => by unfold phit; rw [decide_eq_true hr, Bool.true_and]
  have hv : ∃ a c, vs.getD m nilS = .slice a (Ls.getD m []).length c ∧ (Ls.getD m [] = [] ∨ ∃ g rest, a = some ⟨g, 0, none⟩ ∧ Blk w g (flat (Ls.getD m []) ++ rest) 27) := by
    rcases y9 with ⟨h, h'⟩ | ⟨g, rc, rest, h, _, _, hb, _⟩
    · exact ⟨none, 0, by rw [h, h']; rfl, .inl h'⟩
    · exact ⟨_, _, h, .inr ⟨g, rest, rfl, hb⟩⟩
  obtain ⟨a, c, hv, hform⟩ := hv
  rw [hv] at y7
  clear hX hv y9 hr hr2
  generalize Ls.getD m [] = L at *
  have HF := hid hform
  have HN := hid hnew
  have HS := hid hsm
  have HOK := hid hok
  have HPH := hid hph
  clear hform hnew hsm hok hG hph
  obtain ⟨t0, hi, hz0, hz1, hz2⟩ := info_parts info27
  unfold ptr
  have hn0 : (0 : Int) ≤ (L.length : Int) := by omega
  go_enter Try.func39, Try.ntmps39
  go_wp2
  go_loopw [7, 8, 34] (fun a b c wr => ∃ (i : Nat) (v' : Value), a = v' ∧ b = .int .i64 ((L.take i).countP (phit r) : Nat) ∧ c = .int .i64 i ∧ i ≤ L.length ∧ Hid (wr.ownsRow w.heap.size 27 4 v' ((L.take i).filter (notHit r)).length (flat ((L.take i).filter (notHit r))) ∧ Keep No w wr)) (fun a b c wr => L.length - (intOf c).toNat)
  case atStart => exact ⟨0, _, rfl, rfl, rfl, Nat.zero_le _, World.ownsRow_nil _ _ _ _, Keep.refl _ _⟩
  case round =>
    obtain ⟨i, v', rfl, rfl, rfl, hil, HO⟩ := hrel
    have hcn : (L.take i).countP (phit r) ≤ 65536 := by have := HS.out; have h1 := List.countP_le_length (p := phit r) (l := L.take i); rw [List.length_take] at h1; omega
    have hcn0 : (0 : Int) ≤ ((L.take i).countP (phit r) : Nat) := by omega
    have hcn1 : (((L.take i).countP (phit r) : Nat) : Int) ≤ 65536 := by omega
    by_cases hlt : i < L.length
    · obtain ⟨g, rest, rfl, hbg⟩ := HF.out.resolve_left (fun e => by rw [e] at hlt; exact absurd hlt (Nat.not_lt_zero _))
      have hbr := hbg.mod HO.out.2 (no _)
      obtain ⟨s0, s1, s2, s3⟩ := slot hbr hlt
      have hk0 : (0 : Int) ≤ i := by omega
      have hk1 : (i : Int) < L.length := by omega
      have hk2 : (i : Int) ≤ 65536 := by have := HS.out; omega
      have HT := hid (take_more hlt)
      have hm : gt L i ∈ L := by unfold gt; simp [hlt]
      obtain ⟨⟨_, _, q1, q2, _, _, _, _⟩, _⟩ := HOK.out _ hm
      have hfl : ((L.take i).filter (notHit r)).length ≤ 65536 := by have := HS.out; have h1 := List.length_filter_le (notHit r) (L.take i); rw [List.length_take] at h1; omega
      clear hbg hbr hm
      have hphx := HPH.out (gt L i)
      by_cases hx : phit r (gt L i) = true
      · have hb : ((gt L i).a / 281474976710656 == r) = true := by rw [← hphx]; exact hx
        have HX := hid hx
        clear hphx hx hcn hfl
        go_wp2
        refine ⟨⟨i + 1, _, rfl, ?_, by go_num, hlt, ?_, HO.out.2.alloc _⟩, by simp [intOf]; omega⟩
        · rw [HT.out, pcount_snoc, HX.out]
          rfl
        · rw [HT.out, filter_snoc, notHit, HX.out]
          simpa using HO.out.1.alloc _
      · have hb : ((gt L i).a / 281474976710656 == r) = false := by rw [← hphx]; simpa using hx
        have hx' : phit r (gt L i) = false := by simpa using hx
        have HX := hid hx'
        have HFL := hid hfl
        clear hphx hx hx' hcn hfl
        go_wp2_with (at_builtin; refine wpList_append_src _ rfl (.tmp 46) (.tmp 48) 39 rfl w.heap.size 27 t0 zE 4 32 Try.underlying39 hi hz0 hz1 hz2 rfl (by decide) _ _ _ rfl ((HO.out.1.alloc (.cells #[.int .u64 (gt L i).h, .int .u64 (gt L i).a, .int .u64 (gt L i).v, .int .u8 (gt L i).c] 27)).alloc (.cells #[.int .u64 (gt L i).h, .int .u64 (gt L i).a, .int .u64 (gt L i).v, .int .u8 (gt L i).c] 27)) (.slice (some ⟨wr.heap.size + 1, 0, none⟩) 1 1) 1 (cellsE (gt L i)) rfl (Src.blk (Blk.new1 27 rfl)) rfl ?c1 ?c2 ?c3 ?c4 ?c5)
        case c1 => intro u hu; simp only [cellsE, List.mem_cons, List.not_mem_nil, or_false] at hu; rcases hu with rfl | rfl | rfl | rfl <;> rfl
        case c2 => have := HFL.out; unfold maxLen; omega
        case c3 => have := HFL.out; omega
        case c4 => have := HO.out.2.size; simp; omega
        case c5 =>
          intro v2 w2 h1 h2 h3 h4
          have HO2 := hid h1
          have HK2 := hid (((HO.out.2.alloc (.cells #[.int .u64 (gt L i).h, .int .u64 (gt L i).a, .int .u64 (gt L i).v, .int .u8 (gt L i).c] 27)).alloc (.cells #[.int .u64 (gt L i).h, .int .u64 (gt L i).a, .int .u64 (gt L i).v, .int .u8 (gt L i).c] 27)).grown h2 (fun k e hk => by have := (HO.out.1.lt k e).1; omega))
          clear h1 h2 h3 h4
          go_wp2
          refine ⟨⟨i + 1, _, rfl, ?_, by go_num, hlt, ?_, HK2.out⟩, by simp [intOf]; omega⟩
          · rw [HT.out, pcount_snoc, HX.out]
            rfl
          · have h5 := HO2.out
            have e : (L.take (i + 1)).filter (notHit r) = (L.take i).filter (notHit r) ++ [gt L i] := by rw [HT.out, filter_snoc, show notHit r (gt L i) = true by rw [notHit, HX.out]; rfl, if_pos rfl]
            rw [e, flat_snoc, List.length_append]
            exact h5
    · have hie : i = L.length := by omega
      subst hie
      have e1 : wr.cell? ⟨br, 1, none⟩ = some (.slice (some ⟨ba, 0, none⟩) Ls.length cap2) := (World.cell?_of_block (HO.out.2.block _ y1 (no _))).trans y3
      have e2 : ∀ i, wr.frozen? ⟨ba, i, none⟩ = false := fun i => (World.frozen?_of_block (HO.out.2.block _ y5 (no _))).trans (y6 i)
      have e3 : wr.cell? ⟨ba, m, none⟩ = some (.slice a L.length c) := (World.cell?_of_block (HO.out.2.block _ y5 (no _))).trans y7
      obtain ⟨a', c', rfl, _⟩ := row_form (own_base HO.out.1 (Nat.zero_le _))
      go_wp2
      go_ret
      have h1 := HO.out.1
      rw [List.take_length] at h1 ⊢
      exact ⟨rfl, HN.out _ _ _ HO.out.2 h1⟩
end

theorem rpurge_any {w : World} {br ba most : Nat} {vs : List Value} {Ls : List (List Ent)} (hX : RIdx w br ba vs most Ls) (hG : GoodL most Ls) (k r : Int) (hr2 : r < 9223372036854775808) :
    Calls Try.prog 39 #[ptr br, .int .i64 k, .int .i64 r] w fun e w' => e = .returned (.int .i64 ((xall k Ls).countP (phit r) : Nat)) ∧ RThen w w' (ptr br) most (if 0 ≤ k ∧ k < Ls.length then Ls.set k.toNat ((Ls.getD k.toNat []).filter (notHit r)) else Ls) (RFoot br ba vs) := by
  have hst : RThen w w (ptr br) most Ls (RFoot br ba vs) := RHas.stays ⟨_, _, _, rfl, hX, rfl⟩ (Keep.refl _ _)
  obtain ⟨cap, hcap, hb⟩ := hX.head
  obtain ⟨z0, c0, c1, f0⟩ := hb.two
  have HST := hid hst
  by_cases h0 : k < 0
  · have h1 : decide (k < 0) = true := by simpa using h0
    have H : Hid ((xall k Ls).countP (phit r) = 0) := by show _ = _; rw [xall, if_neg (by omega)]; rfl
    rw [if_neg (by omega)]
    clear hX hb h0 hcap hst hG
    unfold ptr
    go_enter Try.func39, Try.ntmps39
    go_wp2
    go_ret
    exact ⟨by rw [H.out]; rfl, HST.out⟩
  · have h1 : decide (k < 0) = false := by simpa using h0
    obtain ⟨m, rfl⟩ := Int.eq_ofNat_of_zero_le (show 0 ≤ k by omega)
    by_cases h2 : m < Ls.length
    · rw [if_pos (by omega), Int.toNat_natCast]
      have H : Hid (xall m Ls = Ls.getD m []) := by show _ = _; rw [xall, if_pos (by omega)]; rfl
      by_cases h3 : 0 ≤ r
      · have := rpurge_on hX hG m h2 r h3 hr2
        rw [H.out]
        exact this
      · have hph : ∀ x : Ent, phit r x = false := fun x => by unfold phit; rw [decide_eq_false h3]; rfl
        have hf : (Ls.getD m []).filter (notHit r) = Ls.getD m [] := List.filter_eq_self.2 (fun x _ => by rw [notHit, hph]; rfl)
        have hc : (Ls.getD m []).countP (phit r) = 0 := by rw [List.countP_eq_zero]; intro x _; rw [hph]; simp
        have hs : Ls.set m (Ls.getD m []) = Ls := by simp [h2]
        have HC := hid hc
        rw [hf, hs]
        have g2 : decide ((Ls.length : Int) ≤ (m : Int)) = false := by simp; omega
        have g3 : decide (r < 0) = true := by simp; omega
        clear hX hb h0 hcap hst hG hf hc hs hph h3
        unfold ptr
        go_enter Try.func39, Try.ntmps39
        go_wp2
        go_ret
        exact ⟨by rw [H.out, HC.out]; rfl, HST.out⟩
    · rw [if_neg (by omega)]
      have H : Hid ((xall m Ls).countP (phit r) = 0) := by show _ = _; rw [xall, if_neg (by omega)]; rfl
      have h6 : Ls.length ≤ m := by omega
      have h5 : decide ((Ls.length : Int) ≤ (m : Int)) = true := by simp; omega
      clear hX hb h0 h2 hcap hst hG
      unfold ptr
      go_enter Try.func39, Try.ntmps39
      go_wp2
      go_ret
      exact ⟨by rw [H.out]; rfl, HST.out⟩
end Go.Proofs.Ytaijfgajcmopfaa.Y9
/- 'one' (a call of one index), kind by kind: printed by wip/tools/x7.py. -/
set_option linter.unusedVariables false
namespace Go.Proofs.Ytaijfgajcmopfaa.X7
open Go.RowKit Go.Shelf V Rh T W1 W2 W3 W4 W6 W7 W10 Rf X1 X2 X3 X4 X5 X6 Lp

structure Opr where
  k : Int
  e : Ent
  at' : Int
  n : Int
  m : Int
def cellsO (o : Opr) : List Value := [.int .i64 o.k, .int .u64 o.e.h, .int .u64 o.e.a, .int .u64 o.e.v, .int .u8 o.e.c, .int .u64 o.at', .int .i64 o.n, .int .i64 o.m]
def valO (o : Opr) : Value := .agg #[.int .i64 o.k, .int .u64 o.e.h, .int .u64 o.e.a, .int .u64 o.e.v, .int .u8 o.e.c, .int .u64 o.at', .int .i64 o.n, .int .i64 o.m]
def Opr.ok (o : Opr) : Prop := o.e.ok ∧ 0 ≤ o.at' ∧ o.at' < 18446744073709551616 ∧ -9223372036854775808 ≤ o.n ∧ o.n < 9223372036854775808 ∧ -9223372036854775808 ≤ o.m ∧ o.m < 9223372036854775808

def cellsT (a : Ent) (is : Bool) (e n : Int) : List Value := [.int .u64 a.h, .int .u64 a.a, .int .u64 a.v, .int .u8 a.c, .int .u64 0, .int .u64 0, .int .u64 0, .int .u8 0, .bool is, .bool false, .int .i64 e, .int .i64 0, .int .i64 n]
def valT (a : Ent) (is : Bool) (e n : Int) : Value := .agg #[.int .u64 a.h, .int .u64 a.a, .int .u64 a.v, .int .u8 a.c, .int .u64 0, .int .u64 0, .int .u64 0, .int .u8 0, .bool is, .bool false, .int .i64 e, .int .i64 0, .int .i64 n]

theorem info36 : (Try.prog.info? 36).map (fun i => (i.zero, i.size)) = some (some (valT z false 0 0), 13) := by kernel_rfl

theorem load_told {w : World} {b : Nat} {a : Ent} {is : Bool} {e n : Int} {t : TypeId} (h : Blk w b (cellsT a is e n) t) : (loadVar 36 ⟨b, 0, none⟩).run Try.prog w = .ok (valT a is e n) w :=
  run_loadVar_row w b t 36 (cellsT a is e n).toArray (0, 0) _ h Try.underlying36 rfl (by
    have h := info36
    cases hi : Try.prog.info? 36 with
    | none => rw [hi] at h; cases h
    | some i =>
      rw [hi] at h
      simp only [Option.map_some, Option.some.injEq, Prod.mk.injEq] at h
      simp only [Option.map_some, h.2]
      rfl)
theorem res_t {fn : Func} {p : Tmp} (h : fn.results = #[.cell p 36]) (tmps : Array Value) {w : World} {b : Nat} {a : Ent} {is : Bool} {e n : Int} {t : TypeId} (hp : tmps.getD p undef = .pointer (some ⟨b, 0, none⟩)) (hb : Blk w b (cellsT a is e n) t) :
    (results fn tmps).run Try.prog w = .ok (valT a is e n) w := by
  have hp' : tmps[p]?.getD undef = .pointer (some ⟨b, 0, none⟩) := by simpa using hp
  simp [results, h, hp', asAddr, load_told hb]

theorem Blk.thirteen {w : World} {b : Nat} {x0 x1 x2 x3 x4 x5 x6 x7 x8 x9 xa xb xc : Value} {t : TypeId} (h : Blk w b [x0, x1, x2, x3, x4, x5, x6, x7, x8, x9, xa, xb, xc] t) : b < w.heap.size ∧ w.cell? ⟨b, 0, none⟩ = some x0 ∧ w.cell? ⟨b, 1, none⟩ = some x1 ∧ w.cell? ⟨b, 2, none⟩ = some x2 ∧ w.cell? ⟨b, 3, none⟩ = some x3 ∧ w.cell? ⟨b, 4, none⟩ = some x4 ∧ w.cell? ⟨b, 5, none⟩ = some x5 ∧ w.cell? ⟨b, 6, none⟩ = some x6 ∧ w.cell? ⟨b, 7, none⟩ = some x7 ∧ w.cell? ⟨b, 8, none⟩ = some x8 ∧ w.cell? ⟨b, 9, none⟩ = some x9 ∧ w.cell? ⟨b, 10, none⟩ = some xa ∧ w.cell? ⟨b, 11, none⟩ = some xb ∧ w.cell? ⟨b, 12, none⟩ = some xc ∧ (∀ i, w.frozen? ⟨b, i, none⟩ = false) := ⟨h.lt, h.cell 0, h.cell 1, h.cell 2, h.cell 3, h.cell 4, h.cell 5, h.cell 6, h.cell 7, h.cell 8, h.cell 9, h.cell 10, h.cell 11, h.cell 12, h.frozen⟩

theorem Keep.st {S : Nat → Prop} {a b : World} (h : Keep S a b) {B : Nat} (hB : S B) (i : Nat) (u : Value) : Keep S a (b.setCell ⟨B, i, none⟩ u) := h.setCell _ _ (fun _ => hB)
theorem Blk.ot {w : World} {b : Nat} {cs : List Value} {t : TypeId} (h : Blk w b cs t) {B : Nat} (hB : b ≠ B) (i : Nat) (u : Value) : Blk (w.setCell ⟨B, i, none⟩ u) b cs t := h.other _ _ hB

/-- the two blocks of told, as 'one' makes them -/
def lT : List Value := [.int .u64 0, .int .u64 0, .int .u64 0, .int .u8 0, .int .u64 0, .int .u64 0, .int .u64 0, .int .u8 0, .bool false, .bool false, .int .i64 0, .int .i64 0, .int .i64 0]
def zT : Array Value := #[.int .u64 0, .int .u64 0, .int .u64 0, .int .u8 0, .int .u64 0, .int .u64 0, .int .u64 0, .int .u8 0, .bool false, .bool false, .int .i64 0, .int .i64 0, .int .i64 0]


set_option maxRecDepth 100000 in
set_option maxHeartbeats 2000000 in
theorem one_put (p : Value) (o : Opr) (w : World) (R : World → World → Prop) (eo : Ent) (b : Bool) (err : Int)
    (hc : ∀ W, Keep No w W → Calls Try.prog 21 #[p, valE o.e] W fun e w' => e = .returned (.tuple #[valE eo, .bool b, .int .i64 err]) ∧ Keep (fun k => k < w.heap.size) W w' ∧ R W w') (hk : o.k = 0) :
    Calls Try.prog 9 #[p, valO o] w fun e w' => e = .returned (valT eo b err 0) ∧ Around w R w' := by
  unfold valO
  try unfold valE at *
  go_enter Try.func9, Try.ntmps9
  go_wp2_with fail
  refine (hc _ ((((Keep.refl _ _).alloc _).alloc _).alloc _)).mono ?_
  rintro e w1 ⟨rfl, hk, hR⟩
  have HR := hid hR
  have HS := hid hk.size
  have HB5 := hid (((Blk.new2 (w := w) (o := .cells #[.int .i64 0, .int .u64 o.e.h, .int .u64 o.e.a, .int .u64 o.e.v, .int .u8 o.e.c, .int .u64 o.at', .int .i64 o.n, .int .i64 o.m] 29) (o2 := .cells zT 36) (cs := zT) (cl := lT) 36 rfl)).mod hk (by show ¬ (w.heap.size + 2 < w.heap.size); omega))
  have HB4 := hid (((Blk.new1 (w := w) (o := .cells #[.int .i64 0, .int .u64 o.e.h, .int .u64 o.e.a, .int .u64 o.e.v, .int .u8 o.e.c, .int .u64 o.at', .int .i64 o.n, .int .i64 o.m] 29) (cs := zT) (cl := lT) 36 rfl).alloc (.cells zT 36)).mod hk (by show ¬ (w.heap.size + 1 < w.heap.size); omega))
  unfold lT at HB5 HB4
  obtain ⟨z5, b50, b51, b52, b53, b54, b55, b56, b57, b58, b59, b5a, b5b, b5c, f5⟩ := Blk.thirteen HB5.out
  obtain ⟨z4, b40, b41, b42, b43, b44, b45, b46, b47, b48, b49, b4a, b4b, b4c, f4⟩ := Blk.thirteen HB4.out
  clear hk hR
  go_wp2
  have n45 : w.heap.size + 1 ≠ w.heap.size + 1 + 1 := by omega
  have hS : ∀ k, k = w.heap.size + 1 ∨ k = w.heap.size + 1 + 1 → w.heap.size ≤ k ∧ k < (((w.alloc (.cells #[.int .i64 0, .int .u64 o.e.h, .int .u64 o.e.a, .int .u64 o.e.v, .int .u8 o.e.c, .int .u64 o.at', .int .i64 o.n, .int .i64 o.m] 29)).alloc (.cells zT 36)).alloc (.cells zT 36)).heap.size := fun k hk => by simp; omega
  exact bodyPost_ret (res_t rfl _ rfl ((((((((((((((Blk.ot (Blk.ot (Blk.ot (Blk.ot (Blk.ot (Blk.ot HB4.out n45 _ _) n45 _ _) n45 _ _) n45 _ _) n45 _ _) n45 _ _).set 0 _).set 1 _).set 2 _).set 3 _).set 4 _).set 5 _).set 6 _).set 7 _).set 8 _).set 9 _).set 10 _).set 11 _).set 12 _)) rfl ⟨rfl, _, w1, ((((Keep.refl _ w).alloc _).alloc _).alloc _), HR.out, HS.out, (Keep.st (Keep.st (Keep.st (Keep.st (Keep.st (Keep.st (Keep.st (Keep.st (Keep.st (Keep.st (Keep.st (Keep.st (Keep.st (Keep.st (Keep.st (Keep.st (Keep.st (Keep.st (Keep.st (Keep.refl _ _) (hS _ (.inr rfl)) _ _) (hS _ (.inr rfl)) _ _) (hS _ (.inr rfl)) _ _) (hS _ (.inr rfl)) _ _) (hS _ (.inr rfl)) _ _) (hS _ (.inr rfl)) _ _) (hS _ (.inl rfl)) _ _) (hS _ (.inl rfl)) _ _) (hS _ (.inl rfl)) _ _) (hS _ (.inl rfl)) _ _) (hS _ (.inl rfl)) _ _) (hS _ (.inl rfl)) _ _) (hS _ (.inl rfl)) _ _) (hS _ (.inl rfl)) _ _) (hS _ (.inl rfl)) _ _) (hS _ (.inl rfl)) _ _) (hS _ (.inl rfl)) _ _) (hS _ (.inl rfl)) _ _) (hS _ (.inl rfl)) _ _)⟩


set_option maxRecDepth 100000 in
set_option maxHeartbeats 2000000 in
theorem one_remove (p : Value) (o : Opr) (w : World) (R : World → World → Prop) (eo : Ent) (b : Bool)
    (hc : ∀ W, Keep No w W → Calls Try.prog 22 #[p, .int .u64 o.e.h] W fun e w' => e = .returned (.tuple #[valE eo, .bool b]) ∧ Keep (fun k => k < w.heap.size) W w' ∧ R W w') (hk : o.k = 2) :
    Calls Try.prog 9 #[p, valO o] w fun e w' => e = .returned (valT eo b 0 0) ∧ Around w R w' := by
  unfold valO
  try unfold valE at *
  go_enter Try.func9, Try.ntmps9
  go_wp2_with fail
  refine (hc _ ((((Keep.refl _ _).alloc _).alloc _).alloc _)).mono ?_
  rintro e w1 ⟨rfl, hk, hR⟩
  have HR := hid hR
  have HS := hid hk.size
  have HB5 := hid (((Blk.new2 (w := w) (o := .cells #[.int .i64 2, .int .u64 o.e.h, .int .u64 o.e.a, .int .u64 o.e.v, .int .u8 o.e.c, .int .u64 o.at', .int .i64 o.n, .int .i64 o.m] 29) (o2 := .cells zT 36) (cs := zT) (cl := lT) 36 rfl)).mod hk (by show ¬ (w.heap.size + 2 < w.heap.size); omega))
  have HB4 := hid (((Blk.new1 (w := w) (o := .cells #[.int .i64 2, .int .u64 o.e.h, .int .u64 o.e.a, .int .u64 o.e.v, .int .u8 o.e.c, .int .u64 o.at', .int .i64 o.n, .int .i64 o.m] 29) (cs := zT) (cl := lT) 36 rfl).alloc (.cells zT 36)).mod hk (by show ¬ (w.heap.size + 1 < w.heap.size); omega))
  unfold lT at HB5 HB4
  obtain ⟨z5, b50, b51, b52, b53, b54, b55, b56, b57, b58, b59, b5a, b5b, b5c, f5⟩ := Blk.thirteen HB5.out
  obtain ⟨z4, b40, b41, b42, b43, b44, b45, b46, b47, b48, b49, b4a, b4b, b4c, f4⟩ := Blk.thirteen HB4.out
  clear hk hR
  go_wp2
  have n45 : w.heap.size + 1 ≠ w.heap.size + 1 + 1 := by omega
  have hS : ∀ k, k = w.heap.size + 1 ∨ k = w.heap.size + 1 + 1 → w.heap.size ≤ k ∧ k < (((w.alloc (.cells #[.int .i64 2, .int .u64 o.e.h, .int .u64 o.e.a, .int .u64 o.e.v, .int .u8 o.e.c, .int .u64 o.at', .int .i64 o.n, .int .i64 o.m] 29)).alloc (.cells zT 36)).alloc (.cells zT 36)).heap.size := fun k hk => by simp; omega
  exact bodyPost_ret (res_t rfl _ rfl ((((((((((((((Blk.ot (Blk.ot (Blk.ot (Blk.ot (Blk.ot HB4.out n45 _ _) n45 _ _) n45 _ _) n45 _ _) n45 _ _).set 0 _).set 1 _).set 2 _).set 3 _).set 4 _).set 5 _).set 6 _).set 7 _).set 8 _).set 9 _).set 10 _).set 11 _).set 12 _)) rfl ⟨rfl, _, w1, ((((Keep.refl _ w).alloc _).alloc _).alloc _), HR.out, HS.out, (Keep.st (Keep.st (Keep.st (Keep.st (Keep.st (Keep.st (Keep.st (Keep.st (Keep.st (Keep.st (Keep.st (Keep.st (Keep.st (Keep.st (Keep.st (Keep.st (Keep.st (Keep.st (Keep.refl _ _) (hS _ (.inr rfl)) _ _) (hS _ (.inr rfl)) _ _) (hS _ (.inr rfl)) _ _) (hS _ (.inr rfl)) _ _) (hS _ (.inr rfl)) _ _) (hS _ (.inl rfl)) _ _) (hS _ (.inl rfl)) _ _) (hS _ (.inl rfl)) _ _) (hS _ (.inl rfl)) _ _) (hS _ (.inl rfl)) _ _) (hS _ (.inl rfl)) _ _) (hS _ (.inl rfl)) _ _) (hS _ (.inl rfl)) _ _) (hS _ (.inl rfl)) _ _) (hS _ (.inl rfl)) _ _) (hS _ (.inl rfl)) _ _) (hS _ (.inl rfl)) _ _) (hS _ (.inl rfl)) _ _)⟩


set_option maxRecDepth 100000 in
set_option maxHeartbeats 2000000 in
theorem one_removeIf (p : Value) (o : Opr) (w : World) (R : World → World → Prop) (b : Bool)
    (hc : ∀ W, Keep No w W → Calls Try.prog 23 #[p, .int .u64 o.e.h, .int .u64 o.at'] W fun e w' => e = .returned (.bool b) ∧ Keep (fun k => k < w.heap.size) W w' ∧ R W w') (hk : o.k = 3) :
    Calls Try.prog 9 #[p, valO o] w fun e w' => e = .returned (valT z b 0 0) ∧ Around w R w' := by
  unfold valO
  try unfold valE at *
  go_enter Try.func9, Try.ntmps9
  go_wp2_with fail
  refine (hc _ ((((Keep.refl _ _).alloc _).alloc _).alloc _)).mono ?_
  rintro e w1 ⟨rfl, hk, hR⟩
  have HR := hid hR
  have HS := hid hk.size
  have HB5 := hid (((Blk.new2 (w := w) (o := .cells #[.int .i64 3, .int .u64 o.e.h, .int .u64 o.e.a, .int .u64 o.e.v, .int .u8 o.e.c, .int .u64 o.at', .int .i64 o.n, .int .i64 o.m] 29) (o2 := .cells zT 36) (cs := zT) (cl := lT) 36 rfl)).mod hk (by show ¬ (w.heap.size + 2 < w.heap.size); omega))
  have HB4 := hid (((Blk.new1 (w := w) (o := .cells #[.int .i64 3, .int .u64 o.e.h, .int .u64 o.e.a, .int .u64 o.e.v, .int .u8 o.e.c, .int .u64 o.at', .int .i64 o.n, .int .i64 o.m] 29) (cs := zT) (cl := lT) 36 rfl).alloc (.cells zT 36)).mod hk (by show ¬ (w.heap.size + 1 < w.heap.size); omega))
  unfold lT at HB5 HB4
  obtain ⟨z5, b50, b51, b52, b53, b54, b55, b56, b57, b58, b59, b5a, b5b, b5c, f5⟩ := Blk.thirteen HB5.out
  obtain ⟨z4, b40, b41, b42, b43, b44, b45, b46, b47, b48, b49, b4a, b4b, b4c, f4⟩ := Blk.thirteen HB4.out
  clear hk hR
  go_wp2
  have n45 : w.heap.size + 1 ≠ w.heap.size + 1 + 1 := by omega
  have hS : ∀ k, k = w.heap.size + 1 ∨ k = w.heap.size + 1 + 1 → w.heap.size ≤ k ∧ k < (((w.alloc (.cells #[.int .i64 3, .int .u64 o.e.h, .int .u64 o.e.a, .int .u64 o.e.v, .int .u8 o.e.c, .int .u64 o.at', .int .i64 o.n, .int .i64 o.m] 29)).alloc (.cells zT 36)).alloc (.cells zT 36)).heap.size := fun k hk => by simp; omega
  exact bodyPost_ret (res_t rfl _ rfl ((((((((((((((Blk.ot HB4.out n45 _ _).set 0 _).set 1 _).set 2 _).set 3 _).set 4 _).set 5 _).set 6 _).set 7 _).set 8 _).set 9 _).set 10 _).set 11 _).set 12 _)) rfl ⟨rfl, _, w1, ((((Keep.refl _ w).alloc _).alloc _).alloc _), HR.out, HS.out, (Keep.st (Keep.st (Keep.st (Keep.st (Keep.st (Keep.st (Keep.st (Keep.st (Keep.st (Keep.st (Keep.st (Keep.st (Keep.st (Keep.st (Keep.refl _ _) (hS _ (.inr rfl)) _ _) (hS _ (.inl rfl)) _ _) (hS _ (.inl rfl)) _ _) (hS _ (.inl rfl)) _ _) (hS _ (.inl rfl)) _ _) (hS _ (.inl rfl)) _ _) (hS _ (.inl rfl)) _ _) (hS _ (.inl rfl)) _ _) (hS _ (.inl rfl)) _ _) (hS _ (.inl rfl)) _ _) (hS _ (.inl rfl)) _ _) (hS _ (.inl rfl)) _ _) (hS _ (.inl rfl)) _ _) (hS _ (.inl rfl)) _ _)⟩


set_option maxRecDepth 100000 in
set_option maxHeartbeats 2000000 in
theorem one_move (p : Value) (o : Opr) (w : World) (R : World → World → Prop) (b : Bool)
    (hc : ∀ W, Keep No w W → Calls Try.prog 24 #[p, .int .u64 o.e.h, .int .u64 o.at', .int .u64 o.e.a] W fun e w' => e = .returned (.bool b) ∧ Keep (fun k => k < w.heap.size) W w' ∧ R W w') (hk : o.k = 4) :
    Calls Try.prog 9 #[p, valO o] w fun e w' => e = .returned (valT z b 0 0) ∧ Around w R w' := by
  unfold valO
  try unfold valE at *
  go_enter Try.func9, Try.ntmps9
  go_wp2_with fail
  refine (hc _ ((((Keep.refl _ _).alloc _).alloc _).alloc _)).mono ?_
  rintro e w1 ⟨rfl, hk, hR⟩
  have HR := hid hR
  have HS := hid hk.size
  have HB5 := hid (((Blk.new2 (w := w) (o := .cells #[.int .i64 4, .int .u64 o.e.h, .int .u64 o.e.a, .int .u64 o.e.v, .int .u8 o.e.c, .int .u64 o.at', .int .i64 o.n, .int .i64 o.m] 29) (o2 := .cells zT 36) (cs := zT) (cl := lT) 36 rfl)).mod hk (by show ¬ (w.heap.size + 2 < w.heap.size); omega))
  have HB4 := hid (((Blk.new1 (w := w) (o := .cells #[.int .i64 4, .int .u64 o.e.h, .int .u64 o.e.a, .int .u64 o.e.v, .int .u8 o.e.c, .int .u64 o.at', .int .i64 o.n, .int .i64 o.m] 29) (cs := zT) (cl := lT) 36 rfl).alloc (.cells zT 36)).mod hk (by show ¬ (w.heap.size + 1 < w.heap.size); omega))
  unfold lT at HB5 HB4
  obtain ⟨z5, b50, b51, b52, b53, b54, b55, b56, b57, b58, b59, b5a, b5b, b5c, f5⟩ := Blk.thirteen HB5.out
  obtain ⟨z4, b40, b41, b42, b43, b44, b45, b46, b47, b48, b49, b4a, b4b, b4c, f4⟩ := Blk.thirteen HB4.out
  clear hk hR
  go_wp2
  have n45 : w.heap.size + 1 ≠ w.heap.size + 1 + 1 := by omega
  have hS : ∀ k, k = w.heap.size + 1 ∨ k = w.heap.size + 1 + 1 → w.heap.size ≤ k ∧ k < (((w.alloc (.cells #[.int .i64 4, .int .u64 o.e.h, .int .u64 o.e.a, .int .u64 o.e.v, .int .u8 o.e.c, .int .u64 o.at', .int .i64 o.n, .int .i64 o.m] 29)).alloc (.cells zT 36)).alloc (.cells zT 36)).heap.size := fun k hk => by simp; omega
  exact bodyPost_ret (res_t rfl _ rfl ((((((((((((((Blk.ot HB4.out n45 _ _).set 0 _).set 1 _).set 2 _).set 3 _).set 4 _).set 5 _).set 6 _).set 7 _).set 8 _).set 9 _).set 10 _).set 11 _).set 12 _)) rfl ⟨rfl, _, w1, ((((Keep.refl _ w).alloc _).alloc _).alloc _), HR.out, HS.out, (Keep.st (Keep.st (Keep.st (Keep.st (Keep.st (Keep.st (Keep.st (Keep.st (Keep.st (Keep.st (Keep.st (Keep.st (Keep.st (Keep.st (Keep.refl _ _) (hS _ (.inr rfl)) _ _) (hS _ (.inl rfl)) _ _) (hS _ (.inl rfl)) _ _) (hS _ (.inl rfl)) _ _) (hS _ (.inl rfl)) _ _) (hS _ (.inl rfl)) _ _) (hS _ (.inl rfl)) _ _) (hS _ (.inl rfl)) _ _) (hS _ (.inl rfl)) _ _) (hS _ (.inl rfl)) _ _) (hS _ (.inl rfl)) _ _) (hS _ (.inl rfl)) _ _) (hS _ (.inl rfl)) _ _) (hS _ (.inl rfl)) _ _)⟩


set_option maxRecDepth 100000 in
set_option maxHeartbeats 2000000 in
theorem one_hit (p : Value) (o : Opr) (w : World) (R : World → World → Prop) (b : Bool)
    (hc : ∀ W, Keep No w W → Calls Try.prog 25 #[p, .int .u64 o.e.h] W fun e w' => e = .returned (.bool b) ∧ Keep (fun k => k < w.heap.size) W w' ∧ R W w') (hk : o.k = 5) :
    Calls Try.prog 9 #[p, valO o] w fun e w' => e = .returned (valT z b 0 0) ∧ Around w R w' := by
  unfold valO
  try unfold valE at *
  go_enter Try.func9, Try.ntmps9
  go_wp2_with fail
  refine (hc _ ((((Keep.refl _ _).alloc _).alloc _).alloc _)).mono ?_
  rintro e w1 ⟨rfl, hk, hR⟩
  have HR := hid hR
  have HS := hid hk.size
  have HB5 := hid (((Blk.new2 (w := w) (o := .cells #[.int .i64 5, .int .u64 o.e.h, .int .u64 o.e.a, .int .u64 o.e.v, .int .u8 o.e.c, .int .u64 o.at', .int .i64 o.n, .int .i64 o.m] 29) (o2 := .cells zT 36) (cs := zT) (cl := lT) 36 rfl)).mod hk (by show ¬ (w.heap.size + 2 < w.heap.size); omega))
  have HB4 := hid (((Blk.new1 (w := w) (o := .cells #[.int .i64 5, .int .u64 o.e.h, .int .u64 o.e.a, .int .u64 o.e.v, .int .u8 o.e.c, .int .u64 o.at', .int .i64 o.n, .int .i64 o.m] 29) (cs := zT) (cl := lT) 36 rfl).alloc (.cells zT 36)).mod hk (by show ¬ (w.heap.size + 1 < w.heap.size); omega))
  unfold lT at HB5 HB4
  obtain ⟨z5, b50, b51, b52, b53, b54, b55, b56, b57, b58, b59, b5a, b5b, b5c, f5⟩ := Blk.thirteen HB5.out
  obtain ⟨z4, b40, b41, b42, b43, b44, b45, b46, b47, b48, b49, b4a, b4b, b4c, f4⟩ := Blk.thirteen HB4.out
  clear hk hR
  go_wp2
  have n45 : w.heap.size + 1 ≠ w.heap.size + 1 + 1 := by omega
  have hS : ∀ k, k = w.heap.size + 1 ∨ k = w.heap.size + 1 + 1 → w.heap.size ≤ k ∧ k < (((w.alloc (.cells #[.int .i64 5, .int .u64 o.e.h, .int .u64 o.e.a, .int .u64 o.e.v, .int .u8 o.e.c, .int .u64 o.at', .int .i64 o.n, .int .i64 o.m] 29)).alloc (.cells zT 36)).alloc (.cells zT 36)).heap.size := fun k hk => by simp; omega
  exact bodyPost_ret (res_t rfl _ rfl ((((((((((((((Blk.ot HB4.out n45 _ _).set 0 _).set 1 _).set 2 _).set 3 _).set 4 _).set 5 _).set 6 _).set 7 _).set 8 _).set 9 _).set 10 _).set 11 _).set 12 _)) rfl ⟨rfl, _, w1, ((((Keep.refl _ w).alloc _).alloc _).alloc _), HR.out, HS.out, (Keep.st (Keep.st (Keep.st (Keep.st (Keep.st (Keep.st (Keep.st (Keep.st (Keep.st (Keep.st (Keep.st (Keep.st (Keep.st (Keep.st (Keep.refl _ _) (hS _ (.inr rfl)) _ _) (hS _ (.inl rfl)) _ _) (hS _ (.inl rfl)) _ _) (hS _ (.inl rfl)) _ _) (hS _ (.inl rfl)) _ _) (hS _ (.inl rfl)) _ _) (hS _ (.inl rfl)) _ _) (hS _ (.inl rfl)) _ _) (hS _ (.inl rfl)) _ _) (hS _ (.inl rfl)) _ _) (hS _ (.inl rfl)) _ _) (hS _ (.inl rfl)) _ _) (hS _ (.inl rfl)) _ _) (hS _ (.inl rfl)) _ _)⟩


set_option maxRecDepth 100000 in
set_option maxHeartbeats 2000000 in
theorem one_purge (p : Value) (o : Opr) (w : World) (R : World → World → Prop) (c : Int)
    (hc : ∀ W, Keep No w W → Calls Try.prog 12 #[p, .int .i64 o.n, .int .i64 o.m] W fun e w' => e = .returned (.int .i64 c) ∧ Keep (fun k => k < w.heap.size) W w' ∧ R W w') (hk : o.k = 6) :
    Calls Try.prog 9 #[p, valO o] w fun e w' => e = .returned (valT z false 0 c) ∧ Around w R w' := by
  unfold valO
  try unfold valE at *
  go_enter Try.func9, Try.ntmps9
  go_wp2_with fail
  refine (hc _ ((((Keep.refl _ _).alloc _).alloc _).alloc _)).mono ?_
  rintro e w1 ⟨rfl, hk, hR⟩
  have HR := hid hR
  have HS := hid hk.size
  have HB5 := hid (((Blk.new2 (w := w) (o := .cells #[.int .i64 6, .int .u64 o.e.h, .int .u64 o.e.a, .int .u64 o.e.v, .int .u8 o.e.c, .int .u64 o.at', .int .i64 o.n, .int .i64 o.m] 29) (o2 := .cells zT 36) (cs := zT) (cl := lT) 36 rfl)).mod hk (by show ¬ (w.heap.size + 2 < w.heap.size); omega))
  have HB4 := hid (((Blk.new1 (w := w) (o := .cells #[.int .i64 6, .int .u64 o.e.h, .int .u64 o.e.a, .int .u64 o.e.v, .int .u8 o.e.c, .int .u64 o.at', .int .i64 o.n, .int .i64 o.m] 29) (cs := zT) (cl := lT) 36 rfl).alloc (.cells zT 36)).mod hk (by show ¬ (w.heap.size + 1 < w.heap.size); omega))
  unfold lT at HB5 HB4
  obtain ⟨z5, b50, b51, b52, b53, b54, b55, b56, b57, b58, b59, b5a, b5b, b5c, f5⟩ := Blk.thirteen HB5.out
  obtain ⟨z4, b40, b41, b42, b43, b44, b45, b46, b47, b48, b49, b4a, b4b, b4c, f4⟩ := Blk.thirteen HB4.out
  clear hk hR
  go_wp2
  have n45 : w.heap.size + 1 ≠ w.heap.size + 1 + 1 := by omega
  have hS : ∀ k, k = w.heap.size + 1 ∨ k = w.heap.size + 1 + 1 → w.heap.size ≤ k ∧ k < (((w.alloc (.cells #[.int .i64 6, .int .u64 o.e.h, .int .u64 o.e.a, .int .u64 o.e.v, .int .u8 o.e.c, .int .u64 o.at', .int .i64 o.n, .int .i64 o.m] 29)).alloc (.cells zT 36)).alloc (.cells zT 36)).heap.size := fun k hk => by simp; omega
  exact bodyPost_ret (res_t rfl _ rfl ((((((((((((((Blk.ot HB4.out n45 _ _).set 0 _).set 1 _).set 2 _).set 3 _).set 4 _).set 5 _).set 6 _).set 7 _).set 8 _).set 9 _).set 10 _).set 11 _).set 12 _)) rfl ⟨rfl, _, w1, ((((Keep.refl _ w).alloc _).alloc _).alloc _), HR.out, HS.out, (Keep.st (Keep.st (Keep.st (Keep.st (Keep.st (Keep.st (Keep.st (Keep.st (Keep.st (Keep.st (Keep.st (Keep.st (Keep.st (Keep.st (Keep.refl _ _) (hS _ (.inr rfl)) _ _) (hS _ (.inl rfl)) _ _) (hS _ (.inl rfl)) _ _) (hS _ (.inl rfl)) _ _) (hS _ (.inl rfl)) _ _) (hS _ (.inl rfl)) _ _) (hS _ (.inl rfl)) _ _) (hS _ (.inl rfl)) _ _) (hS _ (.inl rfl)) _ _) (hS _ (.inl rfl)) _ _) (hS _ (.inl rfl)) _ _) (hS _ (.inl rfl)) _ _) (hS _ (.inl rfl)) _ _) (hS _ (.inl rfl)) _ _)⟩


set_option maxRecDepth 100000 in
set_option maxHeartbeats 2000000 in
theorem one_get (p : Value) (o : Opr) (w : World) (R : World → World → Prop) (eo : Ent) (b : Bool)
    (hc : ∀ W, Keep No w W → Calls Try.prog 26 #[p, .int .u64 o.e.h] W fun e w' => e = .returned (.tuple #[valE eo, .bool b]) ∧ Keep (fun k => k < w.heap.size) W w' ∧ R W w') (h0 : (o.k == 0) = false) (h2 : (o.k == 2) = false) (h3 : (o.k == 3) = false) (h4 : (o.k == 4) = false) (h5 : (o.k == 5) = false) (h6 : (o.k == 6) = false) :
    Calls Try.prog 9 #[p, valO o] w fun e w' => e = .returned (valT eo b 0 0) ∧ Around w R w' := by
  unfold valO
  try unfold valE at *
  go_enter Try.func9, Try.ntmps9
  go_wp2_with fail
  refine (hc _ ((((Keep.refl _ _).alloc _).alloc _).alloc _)).mono ?_
  rintro e w1 ⟨rfl, hk, hR⟩
  have HR := hid hR
  have HS := hid hk.size
  have HB5 := hid (((Blk.new2 (w := w) (o := .cells #[.int .i64 o.k, .int .u64 o.e.h, .int .u64 o.e.a, .int .u64 o.e.v, .int .u8 o.e.c, .int .u64 o.at', .int .i64 o.n, .int .i64 o.m] 29) (o2 := .cells zT 36) (cs := zT) (cl := lT) 36 rfl)).mod hk (by show ¬ (w.heap.size + 2 < w.heap.size); omega))
  have HB4 := hid (((Blk.new1 (w := w) (o := .cells #[.int .i64 o.k, .int .u64 o.e.h, .int .u64 o.e.a, .int .u64 o.e.v, .int .u8 o.e.c, .int .u64 o.at', .int .i64 o.n, .int .i64 o.m] 29) (cs := zT) (cl := lT) 36 rfl).alloc (.cells zT 36)).mod hk (by show ¬ (w.heap.size + 1 < w.heap.size); omega))
  unfold lT at HB5 HB4
  obtain ⟨z5, b50, b51, b52, b53, b54, b55, b56, b57, b58, b59, b5a, b5b, b5c, f5⟩ := Blk.thirteen HB5.out
  obtain ⟨z4, b40, b41, b42, b43, b44, b45, b46, b47, b48, b49, b4a, b4b, b4c, f4⟩ := Blk.thirteen HB4.out
  clear hk hR
  go_wp2
  have n45 : w.heap.size + 1 ≠ w.heap.size + 1 + 1 := by omega
  have hS : ∀ k, k = w.heap.size + 1 ∨ k = w.heap.size + 1 + 1 → w.heap.size ≤ k ∧ k < (((w.alloc (.cells #[.int .i64 o.k, .int .u64 o.e.h, .int .u64 o.e.a, .int .u64 o.e.v, .int .u8 o.e.c, .int .u64 o.at', .int .i64 o.n, .int .i64 o.m] 29)).alloc (.cells zT 36)).alloc (.cells zT 36)).heap.size := fun k hk => by simp; omega
  exact bodyPost_ret (res_t rfl _ rfl ((((((((((((((Blk.ot (Blk.ot (Blk.ot (Blk.ot (Blk.ot HB4.out n45 _ _) n45 _ _) n45 _ _) n45 _ _) n45 _ _).set 0 _).set 1 _).set 2 _).set 3 _).set 4 _).set 5 _).set 6 _).set 7 _).set 8 _).set 9 _).set 10 _).set 11 _).set 12 _)) rfl ⟨rfl, _, w1, ((((Keep.refl _ w).alloc _).alloc _).alloc _), HR.out, HS.out, (Keep.st (Keep.st (Keep.st (Keep.st (Keep.st (Keep.st (Keep.st (Keep.st (Keep.st (Keep.st (Keep.st (Keep.st (Keep.st (Keep.st (Keep.st (Keep.st (Keep.st (Keep.st (Keep.refl _ _) (hS _ (.inr rfl)) _ _) (hS _ (.inr rfl)) _ _) (hS _ (.inr rfl)) _ _) (hS _ (.inr rfl)) _ _) (hS _ (.inr rfl)) _ _) (hS _ (.inl rfl)) _ _) (hS _ (.inl rfl)) _ _) (hS _ (.inl rfl)) _ _) (hS _ (.inl rfl)) _ _) (hS _ (.inl rfl)) _ _) (hS _ (.inl rfl)) _ _) (hS _ (.inl rfl)) _ _) (hS _ (.inl rfl)) _ _) (hS _ (.inl rfl)) _ _) (hS _ (.inl rfl)) _ _) (hS _ (.inl rfl)) _ _) (hS _ (.inl rfl)) _ _) (hS _ (.inl rfl)) _ _)⟩

end Go.Proofs.Ytaijfgajcmopfaa.X7
/- An index that New did not give: nothing is told. -/
set_option linter.unusedVariables false
namespace Go.Proofs.Ytaijfgajcmopfaa.X8
open Go.RowKit Go.Shelf V Rh T W1 W2 W3 W4 W6 W7 W10 Rf X1 X2 X3 X4 X5 X6 X7 Lp

theorem around_no {w w' : World} (h : Around w (fun A B => Keep No A B) w') : Keep No w w' := by
  obtain ⟨A, B, h1, h2, h3, h4⟩ := h
  exact (h1.trans h2 (fun _ _ h => h)).trans h4 (fun k hk h => by omega)

section
variable {w : World} {p : Value}
theorem low {A B : World} (h : Keep No A B) : Keep (fun k => k < w.heap.size) A B := h.mono (fun _ _ h => h.elim)

theorem atc (hc : Closed w p) (h : Int) : ∀ W, Keep No w W → Calls Try.prog 44 #[p, .int .u64 h] W fun e w' => e = .returned (.pointer none) ∧ ∃ n, W.drewN n = w' :=
  fun W hW => (at_closed p h W (hc.keep hW no)).mono (fun e w' hw => ⟨hw.1, 0, by rw [← hw.2]; rfl⟩)

theorem get_closed (hc : Closed w p) (h : Int) : Calls Try.prog 26 #[p, .int .u64 h] w fun e w' => e = .returned (.tuple #[valE z, .bool false]) ∧ Keep No w w' :=
  get_walk p _ h z false w (atc hc h) (fun W hW => get_nil h W)
theorem remove_closed (hc : Closed w p) (h : Int) : Calls Try.prog 22 #[p, .int .u64 h] w fun e w' => e = .returned (.tuple #[valE z, .bool false]) ∧ Keep No w w' :=
  (remove_walk p _ h z false w _ (atc hc h) (fun W hW => (remove_nil h W).mono fun e w' hw => ⟨hw.1, low hw.2, hw.2⟩)).mono fun e w' hw => ⟨hw.1, around_no hw.2⟩
theorem hit_closed (hc : Closed w p) (h : Int) : Calls Try.prog 25 #[p, .int .u64 h] w fun e w' => e = .returned (.bool false) ∧ Keep No w w' :=
  (hit_walk p _ h false w _ (atc hc h) (fun W hW => (hit_nil h W).mono fun e w' hw => ⟨hw.1, low (hw.2 ▸ Keep.refl _ _), (hw.2 ▸ Keep.refl _ _ : Keep No W w')⟩)).mono fun e w' hw => ⟨hw.1, around_no hw.2⟩
theorem remIf_closed (hc : Closed w p) (h a : Int) : Calls Try.prog 23 #[p, .int .u64 h, .int .u64 a] w fun e w' => e = .returned (.bool false) ∧ Keep No w w' :=
  remIf_no p h a z false w (fun W hW => get_closed (hc.keep hW no) h) (.inl rfl)
theorem move_closed (hc : Closed w p) (h fr to : Int) : Calls Try.prog 24 #[p, .int .u64 h, .int .u64 fr, .int .u64 to] w fun e w' => e = .returned (.bool false) ∧ Keep No w w' :=
  move_no p h fr to z false w (fun W hW => get_closed (hc.keep hW no) h) (.inl rfl)
theorem purge_closed (hc : Closed w p) (n r : Int) : Calls Try.prog 12 #[p, .int .i64 n, .int .i64 r] w fun e w' => e = .returned (.int .i64 0) ∧ Keep No w w' :=
  purge_nil p n r w (fun W hW => stripeN_closed p n W (hc.keep hW no))
theorem len_closed (hc : Closed w p) (n : Int) : Calls Try.prog 19 #[p, .int .i64 n] w fun e w' => e = .returned (.int .i64 0) ∧ w = w' :=
  len_walk p _ n 0 w (stripeN_closed p n w hc) (len_nil w)
theorem all_closed (hc : Closed w p) (n : Int) : Calls Try.prog 11 #[p, .int .i64 n] w fun e w' => e = .returned (.func (.func 48) #[] #[.pointer (some ⟨w.heap.size, 0, none⟩)]) ∧ w.alloc (.cells #[.pointer none] 70) = w' :=
  all_walk p _ n w (stripeN_closed p n w hc) (all_any _ w (.inl rfl))

def errC (o : Opr) : Int := if o.k = 0 then 6 else 0

theorem one_closed (hc : Closed w p) (o : Opr) : Calls Try.prog 9 #[p, valO o] w fun e w' => e = .returned (valT z false (errC o) 0) ∧ Keep No w w' := by
  have fin : ∀ {e : Ending} {w' : World} {v : Value}, e = .returned v ∧ Around w (fun A B => Keep No A B) w' → e = .returned v ∧ Keep No w w' := fun h => ⟨h.1, around_no h.2⟩
  by_cases h0 : o.k = 0
  · rw [show errC o = 6 from if_pos h0]
    exact (one_put p o w _ z false 6 (fun W hW => (put_closed p o.e W (atc (hc.keep hW no) _)).mono fun e w' hw => ⟨hw.1, low hw.2, hw.2⟩) h0).mono fun e w' hw => fin hw
  rw [show errC o = 0 from if_neg h0]
  by_cases h2 : o.k = 2
  · exact (one_remove p o w _ z false (fun W hW => (remove_closed (hc.keep hW no) _).mono fun e w' hw => ⟨hw.1, low hw.2, hw.2⟩) h2).mono fun e w' hw => fin hw
  by_cases h3 : o.k = 3
  · exact (one_removeIf p o w _ false (fun W hW => (remIf_closed (hc.keep hW no) _ _).mono fun e w' hw => ⟨hw.1, low hw.2, hw.2⟩) h3).mono fun e w' hw => fin hw
  by_cases h4 : o.k = 4
  · exact (one_move p o w _ false (fun W hW => (move_closed (hc.keep hW no) _ _ _).mono fun e w' hw => ⟨hw.1, low hw.2, hw.2⟩) h4).mono fun e w' hw => fin hw
  by_cases h5 : o.k = 5
  · exact (one_hit p o w _ false (fun W hW => (hit_closed (hc.keep hW no) _).mono fun e w' hw => ⟨hw.1, low hw.2, hw.2⟩) h5).mono fun e w' hw => fin hw
  by_cases h6 : o.k = 6
  · exact (one_purge p o w _ 0 (fun W hW => (purge_closed (hc.keep hW no) _ _).mono fun e w' hw => ⟨hw.1, low hw.2, hw.2⟩) h6).mono fun e w' hw => fin hw
  exact (one_get p o w _ z false (fun W hW => (get_closed (hc.keep hW no) _).mono fun e w' hw => ⟨hw.1, low hw.2, hw.2⟩) (by simpa using h0) (by simpa using h2) (by simpa using h3) (by simpa using h4) (by simpa using h5) (by simpa using h6)).mono fun e w' hw => fin hw

theorem fork_closed (hc : Closed w p) : Calls Try.prog 15 #[p] w fun e w' => e = .returned (.pointer none) ∧ w = w' := by
  have hq : ∀ W : World, (binOp .eql 56 (.slice none 0 0) (.slice none 0 0)).run Try.prog W = .ok (.bool true) W := fun W => by kernel_rfl
  rcases hc with rfl | ⟨bx, rfl, hb⟩
  · go_enter Try.func15, Try.ntmps15
    go_wp2
    go_ret
    exact ⟨rfl, rfl⟩
  · obtain ⟨z0, c0, f0⟩ := hb.one
    clear hb
    unfold ptr
    go_enter Try.func15, Try.ntmps15
    go_wp2
    go_ret
    exact ⟨rfl, rfl⟩
end
end Go.Proofs.Ytaijfgajcmopfaa.X8
/- A law's post, from 'the blocks that were there lie as they lay'. -/
set_option linter.unusedVariables false
namespace Go.Proofs.Ytaijfgajcmopfaa.Lw
open Go.RowKit Go.ChangeShapes Go.WideShapes Go.ChangeAt V

theorem kids : Kids Try.prog (· < Try.prog.types.size) := kids_rows (by kernel_rfl) (by kernel_rfl)
theorem full : ∀ t e, t < Try.prog.types.size → Try.prog.underlying t = some (.slice e) → 0 < Try.prog.cellsOf e := slices_full_of Try.prog (by kernel_rfl)
theorem own : ownKnob Try.prog.godebug = none := by kernel_rfl

section
variable {H : Type} {enc : TypeId × Value → H} {P : Program} {W W' : World}

theorem keep_kept {S : Nat → Prop} (h : Keep No W W') (may : MemPlace → Prop) : W.keptBut W' may := by
  refine ⟨h.os, h.output, fun i hi => ?_⟩
  rw [h.block i hi (no _)]
  cases hx : W.heap[i]? with
  | none => trivial
  | some o =>
    cases o <;> simp

theorem keep_same (h : Keep No W W') {p : MemPlace} (hp : p.block < W.heap.size) : W.sameAt W' p := by
  cases p with
  | cell b off => exact World.cell?_of_block (h.block b hp (no _))
  | map b => exact h.block b hp (no _)

theorem trodAll_carry {base : Nat} {spare : Nat → Bool} {held : Bool} : ∀ {ts : List TypeId} {vs : List Value} {ds : List (DataW H)} {ps : List MemPlace}, DataW.TrodAll enc P W base spare held ts vs ds ps → (∀ p ∈ ps, W.sameAt W' p) → DataW.TrodAll enc P W' base spare held ts vs ds ps
  | [], [], [], _, h, _ => h
  | _ :: _, _ :: _, _ :: _, _, ⟨p, q, ⟨n, h1⟩, h2, e⟩, hs => ⟨p, q, ⟨n, DataW.trod_carry n _ _ _ h1 (fun x hx => hs x (by rw [e]; exact List.mem_append_left _ hx))⟩, trodAll_carry h2 (fun x hx => hs x (by rw [e]; exact List.mem_append_right _ hx)), e⟩
end

theorem trodAll_len {H : Type} {enc : TypeId × Value → H} {P : Program} {w : World} {base : Nat} {sp : Nat → Bool} {held : Bool} : ∀ {ts : List TypeId} {vs : List Value} {ds : List (DataW H)} {ps : List MemPlace}, DataW.TrodAll enc P w base sp held ts vs ds ps → ds.length = ts.length
  | [], [], [], _, _ => rfl
  | _ :: _, _ :: _, _ :: _, _, ⟨_, _, _, h2, _⟩ => by simp [trodAll_len h2]

set_option maxRecDepth 100000 in
/-- **A LAW's POST**: it answered true, and what lay there lies as it lay. -/
theorem post_true {H : Type} {enc : TypeId × Value → H} {f : Func} {s : ChangeSpec} {apart fresh handsOn again : Bool} {W W' : World} {args : Array Value} {ds gs : List (DataW H)} {before : List MemPlace}
    (hv : s.vars = []) (hT : ∀ t ∈ f.params.toList, t < Try.prog.types.size) (hW : DataW.Whole enc Try.prog f.params.toList s.vars apart W args.toList ds gs before) (hk : Keep No W W')
    (hr : f.resultTypes = #[4]) (hfn : ∀ ds : List (DataW H), ds.length = f.params.toList.length → s.fn H ds = { results := [.lit (.bool true)], args := ds }) :
    s.post enc Try.prog f apart fresh handsOn again W args (.bool true) W' := by
  obtain ⟨pa, pv, hA, hV, hb, hz, hn⟩ := hW
  have hW' : DataW.Whole enc Try.prog f.params.toList s.vars apart W args.toList ds gs before := ⟨pa, pv, hA, hV, hb, hz, hn⟩
  have hgs : gs = [] ∧ pv = [] := by rw [hv] at hV; exact trodVars_none hV
  obtain ⟨rfl, rfl⟩ := hgs
  have hlen : ds.length = f.params.toList.length := trodAll_len hA
  have hf := hfn ds hlen
  have hpa : ∀ p ∈ pa, p.block < W.heap.size := hA.lt
  have hba : before = pa := by rw [hb]; simp
  subst hba
  have hargs : ∀ sp : Nat → Bool, (∀ p ∈ before, sp p.block = true) → DataW.TrodAll enc Try.prog W' 0 sp true f.params.toList args.toList ds before := fun sp hsp =>
    trodAll_carry (DataW.TrodAll.respare kids full hT hA hsp) (fun p hp => keep_same hk (hpa p hp))
  have hres : ∀ (b : Nat) (sp : Nat → Bool) (hd : Bool), DataW.TrodAll enc Try.prog W' b sp hd f.resultTypes.toList ((Value.bool true).resultList f.resultTypes.size) [.lit (.bool true)] [] := fun b sp hd => by
    rw [hr]
    exact trodAll_cons_mk (shut_bool Try.underlying4 _) trodAll_mk0
  have hvars : ∀ sp : Nat → Bool, DataW.TrodVars enc Try.prog W' sp s.vars [] [] := fun sp => by rw [hv]; rfl
  have hold : ∀ p ∈ before, (fun b => decide (b < W.heap.size)) p.block = true := fun p hp => by simpa using hpa p hp
  refine ⟨ds, [], before, [], before, [], hW', ?_, ?_, ?_, keep_kept (S := No) hk _, fun _ => ⟨?_, ?_⟩⟩
  · rw [List.append_nil, hf]; exact hres _ _ _
  · rw [List.append_nil, hf]; exact hargs _ hold
  · rw [List.append_nil, hf]; exact hvars _
  · exact ok_one (t := 4) hr (by rfl) (okWide_bool_mk Try.underlying4 _)
  · refine ⟨_, _, ([] ++ before) ++ [], ⟨[] ++ before, [], trodAll_append (hargs (fun _ => true) (fun _ _ => rfl)) (hres _ _ _), hvars _, rfl, ?_, ?_⟩, ?_⟩
    · intro b off hp
      have hp' : MemPlace.cell b off ∈ before := by simpa using hp
      rw [World.frozen?_of_block (hk.block b (hpa _ hp') (no _))]
      exact hz b off (by simpa using hp')
    · intro ha
      simpa using hn ha
    · intro p hp _
      simpa using hp
end Go.Proofs.Ytaijfgajcmopfaa.Lw
