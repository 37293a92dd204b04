import Derived.Test.YtaijfgajcmopfaaY5
import Derived.Deep.RegionHeld3
import Derived.Deep.AppendLies
import Derived.IntWalk
import Derived.Test.YtaijfgajcmopfaaPop
/- The document's index: Remove. -/
set_option linter.unusedVariables false
set_option linter.unusedSimpArgs false
namespace Go.Proofs.Ytaijfgajcmopfaa.Y6
open Go.RowKit Go.Shelf V Rh T W1 W2 W3 W4 W6 Rf X1 X2 X4 X5 X6 Pl Y1 Y2 Y3 Y4 Y5

/-- append within a region that draws its order, onto a row of one's own -/
theorem step_append_at {P : Program} {ops : Array Oper} {o : Oper} {a : Act} {w : World} {K : Act → World → Prop} {Q : Exit → Act → World → Prop} {E : Prop} (hgd : o.guard = none) (s x : Operand) (t : TypeId)
    (ho : o.op = .call { callee := .builtin .append, args := #[s, x], argTypes := #[t, t] })
    (base : Nat) (e : TypeId) (i : TypeInfo) (z : Value) (size bytes : Nat) (ht : P.underlying t = some (.slice e)) (hi : P.info? e = some i) (hz : i.zero = some z)
    (hsize : i.size = size) (hby : i.bytes = bytes) (hzs : z.cells.size = size) (hsz : 0 < size)
    (v : Value) (n : Nat) (xs : List Value) (hs : a.eval s = v) (hown : w.ownsRow base e size v n xs)
    (ad : Addr) (m c : Nat) (news : List Value) (hx : a.eval x = .slice (some ad) m c) (hl : news.length = m * size) (hnews : ∀ j u, news[j]? = some u → w.cell? (ad.add j) = some u) (h1 : ∀ u ∈ news, u.oneCell' = true)
    (h63 : n + m ≤ maxLen) (hbytes : (n + m) * bytes ≤ 140737488355328) (hbase : base ≤ w.heap.size)
    (h : ∀ v' w', w'.ownsRow base e size v' (n + m) (xs ++ news) → w.grownBy w' v.ownBlock → (v' = .slice none 0 0 ↔ v = .slice none 0 0 ∧ m = 0) → (v'.ownBlock = v.ownBlock ∨ v'.ownBlock = some w.heap.size) → K (a.put o.dst v') w') :
    if Region.wanted o (yielded ops a.tmps) = true then Oper.wp P o a w K Q else E := by
  have hw : Region.wanted o (yielded ops a.tmps) = true := by simp [Region.wanted, hgd]
  rw [if_pos hw]
  obtain ⟨v', w', hr, h2, h3, h4, h5⟩ := run_append_own_at (P := P) w base t o.type e i z size bytes ht hi hz hsize hby hzs hsz v n xs hown ad m c news hl hnews h1 h63 hbytes hbase
  unfold Oper.wp execOp
  simp only [ho, resolve, invoke, builtin, Sem.run_bind, Sem.run_pure, Result.andThen_ok, List.map_toArray, List.map_cons, List.map_nil, hs, hx, hr]
  exact h v' w' h2 h3 h4 h5

theorem Blk.ot' {w : World} {b : Nat} {cs : List Value} {t : TypeId} (h : Blk w b cs t) {B : Nat} (hB : b ≠ B) (i : Nat) (u : Value) : Blk (w.setCell ⟨B, i, none⟩ u) b cs t := h.other _ _ hB

section
variable {w : World} {br ba most : Nat} {vs : List Value} {Ls : List (List Ent)}

theorem xrem_some {h : Int} {s p n : Nat} {v : Value} {L : List Ent} {o : Ent} (S : Setup w br ba most vs Ls h s p n v L) (hl : lget h L = some o) : xrem h Ls = xset h (L.take p ++ L.drop (p + 1)) Ls := by
  unfold xrem
  rw [S.list, lrem_pos S.sorted hl, ← S.pos]

set_option maxRecDepth 100000 in
set_option maxHeartbeats 4000000 in
theorem rremove_any (hX : RIdx w br ba vs most Ls) (hG : GoodL most Ls) (h : Int) (hh : 0 ≤ h) (hh2 : h < 18446744073709551616) :
    Calls Try.prog 35 #[ptr br, .int .u64 h] w fun e w' => e = .returned (.tuple #[valE ((xget h Ls).getD z), .bool (xget h Ls).isSome]) ∧ RThen w w' (ptr br) most (xrem h Ls) (RFoot br ba vs) := by
  obtain ⟨s, p, n, v, L, S⟩ := Y4.RIdx.setup hX hG h hh hh2
  have hg : xget h Ls = lget h L := by unfold xget; rw [S.list]
  rw [hg]
  have hfind := S.find
  have HS := hid S
  have HB : Hid (Blk (w.alloc (.cells #[.int .u64 0, .int .u64 0, .int .u64 0, .int .u8 0] 27)) w.heap.size [.int .u64 0, .int .u64 0, .int .u64 0, .int .u8 0] 27) := Blk.new' _ rfl
  cases hl : lget h L with
  | none =>
    have hx : xrem h Ls = Ls := by
      unfold xrem
      have := S.list
      subst this
      rw [lrem_of_none hl]
      exact xset_self
    rw [hx]
    rw [hl] at hfind
    simp only [Option.isSome_none] at hfind
    clear S hg hl hx hX
    unfold ptr
    go_enter Try.func35, Try.ntmps35
    go_wp2_with (go_at_call 59; refine (hfind _ ((Keep.refl _ _).alloc _)).mono ?_; rintro e w1 ⟨rfl, hk⟩; have hk1 := hid (Keep.trans ((Keep.refl No w).alloc _) hk (fun _ _ h => h)); have hd := hid (HB.out.mod hk (no _)); obtain ⟨q0, b0, b1, b2, b3, g0⟩ := hd.out.four; clear hk)
    exact bodyPost_ret (res_eu (e := z) rfl _ rfl rfl (Blk.setE hd.out z)) rfl ⟨rfl, HS.out.stays _ (hk1.out.set4 (fun h => absurd h (by omega)) _ _ _ _ _ _ _ _)⟩
  | some o =>
    rw [hl] at hfind
    obtain ⟨hpl, ho⟩ := S.found o hl
    have HX := hid (xrem_some S hl)
    have i0 : (0 : Int) ≤ (s : Nat) := by omega
    have i1 : (s : Int) < n := by have := S.hs; omega
    have i2 : (0 : Int) ≤ (p : Nat) := by omega
    have i3 : (p : Int) < L.length := by omega
    have hsm := S.small
    have HO := hid ho
    simp only [Option.isSome_some] at hfind
    clear S hg hl hX ho
    unfold ptr
    obtain ⟨t0, hi, hz0, hz1, hz2⟩ := info_parts info27
    go_enter Try.func35, Try.ntmps35
    go_wp2_with (go_at_call 59; refine (hfind _ ((Keep.refl _ _).alloc _)).mono ?_; rintro e w1 ⟨rfl, hk⟩; have HK := hid (Keep.trans ((Keep.refl No w).alloc _) hk (fun _ _ h => h)); have hd := hid (HB.out.mod hk (no _)); obtain ⟨q0, b0, b1, b2, b3, g0⟩ := hd.out.four; obtain ⟨cap, y0, y1, y2, y3, y4, y5, y6, y7, y9⟩ := HS.out.opn _ HK.out; obtain ⟨g, rcap, rest, rfl, y10, y11, hbg, y12, y13, y14, y15⟩ := y9.resolve_left (fun e => by rw [e.2] at hpl; exact absurd hpl (Nat.not_lt_zero _)); obtain ⟨s0, s1, s2, s3⟩ := slot hbg hpl; rw [HO.out] at s0 s1 s2 s3; have hfr := hbg.frozen; have hgl := hbg.lt; have HBG := hid hbg; clear hk hbg y9 y11)
    have hbe : 1 = 1 := rfl
    obtain ⟨W, hW⟩ : ∃ W, w1.alloc (.cells #[.int .u64 o.h, .int .u64 o.a, .int .u64 o.v, .int .u8 o.c] 27) = W := ⟨_, rfl⟩
    have hWs : W.heap.size = w1.heap.size + 1 := by rw [← hW]; simp
    rw [hW]
    have Y3 : W.cell? ⟨br, 1, none⟩ = some (.slice (some ⟨ba, 0, none⟩) n cap) := by rw [← hW, World.cell?_alloc_lt _ _ _ y1]; exact y3
    have Y7 : W.cell? ⟨ba, s, none⟩ = some (.slice (some ⟨g, 0, none⟩) L.length rcap) := by rw [← hW, World.cell?_alloc_lt _ _ _ y5]; exact y7
    have FB : ∀ i, W.frozen? ⟨ba, i, none⟩ = false := by
      intro i
      rw [← hW]
      obtain ⟨rr, hrow⟩ : ∃ o, w1.heap[ba]? = some o := ⟨_, Array.getElem?_eq_getElem y5⟩
      exact (World.frozen?_of_block (Below.heap_alloc _ _ _ y5)).trans (y6 i)
    have HBW : Hid (Blk W g (flat L ++ rest) 27) := by rw [← hW]; exact HBG.out.alloc _
    have z1 : br < W.heap.size := by omega
    have z2 : ba < W.heap.size := by omega
    have z3 : g < W.heap.size := by omega
    have hn1 : p + 1 ≤ L.length := by omega
    have hpr : p ≤ rcap := by omega
    have hpr1 : p + 1 ≤ rcap := by omega
    clear y2 y3 y4 y6 y7 s0 s1 s2 s3 hfr b0 b1 b2 b3 g0 hWs
    have hkW : Keep No w W := by rw [← hW]; exact HK.out.alloc _
    have hwW : w.heap.size ≤ W.heap.size := hkW.size
    have N1 : Hid (∀ V : World, Keep No W V → ∀ j u, (flat (L.take p))[j]? = some u → V.cell? ((⟨g, 0, none⟩ : Addr).add j) = some u) := fun V hV j u hu => by
      rw [add_at, Nat.zero_add, (HBW.out.mod hV (no _)).cell]
      have hj : j < (flat (L.take p)).length := (List.getElem?_eq_some_iff.1 hu).1
      have hsp : flat L = flat (L.take p) ++ flat (L.drop p) := by unfold flat; rw [← List.flatMap_append, List.take_append_drop]
      rw [hsp, List.append_assoc, List.getElem?_append_left hj]
      exact hu
    obtain ⟨ad, had, N2⟩ : ∃ ad : Addr, (rcap = p + 1 ∧ ad = ⟨g, 0, none⟩ ∨ (¬ rcap = p + 1) ∧ ad = ⟨g, (p + 1) * 4, none⟩) ∧ Hid (∀ V : World, Keep No W V → ∀ j u, (flat (L.drop (p + 1)))[j]? = some u → V.cell? (ad.add j) = some u) := by
      by_cases hrc : rcap = p + 1
      · refine ⟨_, .inl ⟨hrc, rfl⟩, fun V hV j u hu => ?_⟩
        rw [List.drop_eq_nil_of_le (by omega)] at hu
        cases hu
      · refine ⟨_, .inr ⟨hrc, rfl⟩, fun V hV j u hu => ?_⟩
        rw [add_at, (HBW.out.mod hV (no _)).cell]
        have hj : j < (flat (L.drop (p + 1))).length := (List.getElem?_eq_some_iff.1 hu).1
        have hsp : flat L = flat (L.take (p + 1)) ++ flat (L.drop (p + 1)) := by unfold flat; rw [← List.flatMap_append, List.take_append_drop]
        have hl : (flat (L.take (p + 1))).length = (p + 1) * 4 := by rw [flat_length, List.length_take]; omega
        rw [hsp, List.append_assoc, List.getElem?_append_right (by omega), List.getElem?_append_left (by omega), hl, Nat.add_sub_cancel_left]
        exact hu
    have K1 : Hid (∀ (V V' : World) (r : Option Nat), Keep No W V → V.grownBy V' r → (∀ k, r = some k → W.heap.size ≤ k) → Keep No W V') := fun V V' r hV hg hr => hV.grown hg (fun k e hk => by have := hr k e; omega)
    have S1 : Hid (∀ V : World, Keep No W V → V.cell? ⟨br, 1, none⟩ = some (.slice (some ⟨ba, 0, none⟩) n cap) ∧ V.cell? ⟨ba, s, none⟩ = some (.slice (some ⟨g, 0, none⟩) L.length rcap)) := fun V hV => ⟨(World.cell?_of_block (hV.block br z1 (no _))).trans Y3, (World.cell?_of_block (hV.block ba z2 (no _))).trans Y7⟩
    have F1 : Hid (∀ V : World, Keep No W V → (∀ i, V.frozen? ⟨ba, i, none⟩ = false) ∧ ba < V.heap.size) := fun V hV => ⟨fun i => (World.frozen?_of_block (hV.block ba z2 (no _))).trans (FB i), Nat.lt_of_lt_of_le z2 hV.size⟩
    have KA : Hid (Keep No W ((W.alloc (.cells #[] 27)).drew)) := ((Keep.refl _ _).alloc _).drew
    have O1 : Hid (((W.alloc (.cells #[] 27)).drew).ownsRow W.heap.size 27 4 (.slice (some ⟨W.heap.size, 0, none⟩) 0 0) 0 []) := (World.ownsRow_lit W #[] 0 (Nat.le_refl _) (by decide) rfl).drew
    have LT : Hid ((flat (L.take p)).length = p * 4) := by show _ = _; rw [flat_length, List.length_take]; omega
    have LD : Hid ((flat (L.drop (p + 1))).length = (L.length - (p + 1)) * 4) := by show _ = _; rw [flat_length, List.length_drop]; omega
    have W1 : IntKind.i64.wrap ((p : Int) + 1) = (p : Int) + 1 := IntWalk.i64_in _ (by omega)
    have W2 : (0 : Int) ≤ (p : Int) + 1 := by omega
    have W3 : (p : Int) + 1 ≤ (L.length : Int) := by omega
    have W4 : ((p : Int) + 1).toNat = p + 1 := by omega
    have W5 : (p : Int) ≤ (p : Int) + 1 := by omega
    have hm1 : 0 + p ≤ maxLen := by unfold maxLen; omega
    have hm2 : (0 + p) * 32 ≤ 140737488355328 := by omega
    have hm3 : 0 + p + (L.length - (p + 1)) ≤ maxLen := by unfold maxLen; omega
    have hm4 : (0 + p + (L.length - (p + 1))) * 32 ≤ 140737488355328 := by omega
    have hb1 : W.heap.size ≤ ((W.alloc (.cells #[] 27)).drew).heap.size := KA.out.size
    have hne0 : ∀ x, (Value.slice (some ⟨W.heap.size, 0, none⟩) 0 0).ownBlock = some x → W.heap.size ≤ x := fun x e => by simp [Value.ownBlock] at e; omega
    have M := hid (And.intro hm1 (And.intro hm2 (And.intro hm3 (And.intro hm4 (And.intro hb1 hne0)))))
    clear hm1 hm2 hm3 hm4 hb1 hne0
    have HL4 : Hid (Blk W w.heap.size [.int .u64 0, .int .u64 0, .int .u64 0, .int .u8 0] 27) := by rw [← hW]; exact hd.out.alloc _
    have HL9 : Hid (Blk W w1.heap.size (cellsE o) 27) := by rw [← hW]; exact Blk.new' _ rfl
    have hneL : w.heap.size ≠ ba := by have := HS.out.bound; omega
    have hneR : w1.heap.size ≠ ba := by omega
    unfold cellsE at HL9
    rcases had with ⟨hrc, rfl⟩ | ⟨hrc, rfl⟩
    · subst hrc
      have hLp : L.length = p + 1 := by omega
      have LD1 : Hid ((flat (L.drop (p + 1))).length = 0 * 4) := by show _ = _; rw [flat_length, List.length_drop]; omega
      have M1 : Hid (0 + p + 0 ≤ maxLen) := by have := M.out.1; show _ ≤ _; omega
      have M2 : Hid ((0 + p + 0) * 32 ≤ 140737488355328) := by have := M.out.2.1; show _ ≤ _; omega
      have HLp := hid hLp
      clear hLp
      refine Pop.wp_region_pop (m := 28) (S := fun w' => w'.cell? ⟨br, 1, none⟩ = some (.slice (some ⟨ba, 0, none⟩) n cap) ∧ w'.cell? ⟨ba, s, none⟩ = some (.slice (some ⟨g, 0, none⟩) L.length (p + 1))) (by kernel_rfl) (by kernel_rfl) ?_
      have hS0 := S1.out _ ((Keep.refl No W).drew)
      refine wpAnyH_take (i := 0) (v := ?_) rfl (by kernel_rfl) (by kernel_rfl) (by kernel_rfl) (fun _ _ _ h => h) (Or.inl ⟨by rfl, ?_⟩) hS0 ?_
      rotate_left
      · (intro w hSw; obtain ⟨q1, q2⟩ := hSw; go_simp; try with_reducible rfl)
      simp only [Act.put, List.setIfInBounds_toArray, List.set_cons_zero, List.set_cons_succ]
      refine wpAnyH_take (i := 1) (v := ?_) rfl (by kernel_rfl) (by kernel_rfl) (by kernel_rfl) (fun _ _ _ h => h) (Or.inl ⟨by rfl, ?_⟩) hS0 ?_
      rotate_left
      · (intro w hSw; obtain ⟨q1, q2⟩ := hSw; go_simp; try with_reducible rfl)
      simp only [Act.put, List.setIfInBounds_toArray, List.set_cons_zero, List.set_cons_succ]
      refine wpAnyH_take (i := 2) (v := ?_) rfl (by kernel_rfl) (by kernel_rfl) (by kernel_rfl) (fun _ _ _ h => h) (Or.inl ⟨by rfl, ?_⟩) hS0 ?_
      rotate_left
      · (intro w hSw; obtain ⟨q1, q2⟩ := hSw; go_simp; try with_reducible rfl)
      simp only [Act.put, List.setIfInBounds_toArray, List.set_cons_zero, List.set_cons_succ]
      refine wpAnyH_take (i := 3) (v := ?_) rfl (by kernel_rfl) (by kernel_rfl) (by kernel_rfl) (fun _ _ _ h => h) (Or.inl ⟨by rfl, ?_⟩) hS0 ?_
      rotate_left
      · (intro w hSw; obtain ⟨q1, q2⟩ := hSw; go_simp; try with_reducible rfl)
      simp only [Act.put, List.setIfInBounds_toArray, List.set_cons_zero, List.set_cons_succ]
      refine wpAnyH_take (i := 4) (v := ?_) rfl (by kernel_rfl) (by kernel_rfl) (by kernel_rfl) (fun _ _ _ h => h) (Or.inl ⟨by rfl, ?_⟩) hS0 ?_
      rotate_left
      · (intro w hSw; obtain ⟨q1, q2⟩ := hSw; go_simp; try with_reducible rfl)
      simp only [Act.put, List.setIfInBounds_toArray, List.set_cons_zero, List.set_cons_succ]
      refine wpAnyH_take (i := 6) (v := ?_) rfl (by kernel_rfl) (by kernel_rfl) (by kernel_rfl) (fun _ _ _ h => h) (Or.inl ⟨by rfl, ?_⟩) hS0 ?_
      rotate_left
      · (intro w hSw; obtain ⟨q1, q2⟩ := hSw; go_simp; try with_reducible rfl)
      simp only [Act.put, List.setIfInBounds_toArray, List.set_cons_zero, List.set_cons_succ]
      refine wpAnyH_take (i := 7) (v := ?_) rfl (by kernel_rfl) (by kernel_rfl) (by kernel_rfl) (fun _ _ _ h => h) (Or.inl ⟨by rfl, ?_⟩) hS0 ?_
      rotate_left
      · (intro w hSw; obtain ⟨q1, q2⟩ := hSw; go_simp; try with_reducible rfl)
      simp only [Act.put, List.setIfInBounds_toArray, List.set_cons_zero, List.set_cons_succ]
      refine wpAnyH_take (i := 8) (v := ?_) rfl (by kernel_rfl) (by kernel_rfl) (by kernel_rfl) (fun _ _ _ h => h) (Or.inl ⟨by rfl, ?_⟩) hS0 ?_
      rotate_left
      · (intro w hSw; obtain ⟨q1, q2⟩ := hSw; go_simp; try with_reducible rfl)
      simp only [Act.put, List.setIfInBounds_toArray, List.set_cons_zero, List.set_cons_succ]
      refine wpAnyH_take (i := 9) (v := ?_) rfl (by kernel_rfl) (by kernel_rfl) (by kernel_rfl) (fun _ _ _ h => h) (Or.inl ⟨by rfl, ?_⟩) hS0 ?_
      rotate_left
      · (intro w hSw; obtain ⟨q1, q2⟩ := hSw; go_simp; try with_reducible rfl)
      simp only [Act.put, List.setIfInBounds_toArray, List.set_cons_zero, List.set_cons_succ]
      refine wpAnyH_take (i := 10) (v := ?_) rfl (by kernel_rfl) (by kernel_rfl) (by kernel_rfl) (fun _ _ _ h => h) (Or.inl ⟨by rfl, ?_⟩) hS0 ?_
      rotate_left
      · (intro w hSw; obtain ⟨q1, q2⟩ := hSw; go_simp; try with_reducible rfl)
      simp only [Act.put, List.setIfInBounds_toArray, List.set_cons_zero, List.set_cons_succ]
      refine wpAnyH_take (i := 11) (v := ?_) rfl (by kernel_rfl) (by kernel_rfl) (by kernel_rfl) (fun _ _ _ h => h) (Or.inl ⟨by rfl, ?_⟩) hS0 ?_
      rotate_left
      · (intro w hSw; obtain ⟨q1, q2⟩ := hSw; go_simp; try with_reducible rfl)
      simp only [Act.put, List.setIfInBounds_toArray, List.set_cons_zero, List.set_cons_succ]
      refine wpAnyH_take (i := 12) (v := ?_) rfl (by kernel_rfl) (by kernel_rfl) (by kernel_rfl) (fun _ _ _ h => h) (Or.inl ⟨by rfl, ?_⟩) hS0 ?_
      rotate_left
      · (intro w hSw; obtain ⟨q1, q2⟩ := hSw; go_simp; try with_reducible rfl)
      simp only [Act.put, List.setIfInBounds_toArray, List.set_cons_zero, List.set_cons_succ]
      refine wpAnyH_take (i := 13) (v := ?_) rfl (by kernel_rfl) (by kernel_rfl) (by kernel_rfl) (fun _ _ _ h => h) (Or.inl ⟨by rfl, ?_⟩) hS0 ?_
      rotate_left
      · (intro w hSw; obtain ⟨q1, q2⟩ := hSw; go_simp; try with_reducible rfl)
      simp only [Act.put, List.setIfInBounds_toArray, List.set_cons_zero, List.set_cons_succ]
      refine wpAnyH_take (i := 14) (v := ?_) rfl (by kernel_rfl) (by kernel_rfl) (by kernel_rfl) (fun _ _ _ h => h) (Or.inl ⟨by rfl, ?_⟩) hS0 ?_
      rotate_left
      · (intro w hSw; obtain ⟨q1, q2⟩ := hSw; go_simp; try with_reducible rfl)
      simp only [Act.put, List.setIfInBounds_toArray, List.set_cons_zero, List.set_cons_succ]
      refine wpAnyH_take (i := 16) (v := ?_) rfl (by kernel_rfl) (by kernel_rfl) (by kernel_rfl) (fun _ _ _ h => h) (Or.inl ⟨by rfl, ?_⟩) hS0 ?_
      rotate_left
      · (intro w hSw; obtain ⟨q1, q2⟩ := hSw; go_simp; try with_reducible rfl)
      simp only [Act.put, List.setIfInBounds_toArray, List.set_cons_zero, List.set_cons_succ]
      refine wpAnyH_take (i := 17) (v := ?_) rfl (by kernel_rfl) (by kernel_rfl) (by kernel_rfl) (fun _ _ _ h => h) (Or.inl ⟨by rfl, ?_⟩) hS0 ?_
      rotate_left
      · (intro w hSw; obtain ⟨q1, q2⟩ := hSw; go_simp; try with_reducible rfl)
      simp only [Act.put, List.setIfInBounds_toArray, List.set_cons_zero, List.set_cons_succ]
      refine wpAnyH_take (i := 18) (v := ?_) rfl (by kernel_rfl) (by kernel_rfl) (by kernel_rfl) (fun _ _ _ h => h) (Or.inl ⟨by rfl, ?_⟩) hS0 ?_
      rotate_left
      · (intro w hSw; obtain ⟨q1, q2⟩ := hSw; go_simp; try with_reducible rfl)
      simp only [Act.put, List.setIfInBounds_toArray, List.set_cons_zero, List.set_cons_succ]
      refine wpAnyH_take (i := 19) (v := ?_) rfl (by kernel_rfl) (by kernel_rfl) (by kernel_rfl) (fun _ _ _ h => h) (Or.inl ⟨by rfl, ?_⟩) hS0 ?_
      rotate_left
      · (intro w hSw; obtain ⟨q1, q2⟩ := hSw; go_simp; try with_reducible rfl)
      simp only [Act.put, List.setIfInBounds_toArray, List.set_cons_zero, List.set_cons_succ]
      refine wpAnyH_take (i := 20) (v := ?_) rfl (by kernel_rfl) (by kernel_rfl) (by kernel_rfl) (fun _ _ _ h => h) (Or.inl ⟨by rfl, ?_⟩) hS0 ?_
      rotate_left
      · (intro w hSw; obtain ⟨q1, q2⟩ := hSw; go_simp; try with_reducible rfl)
      simp only [Act.put, List.setIfInBounds_toArray, List.set_cons_zero, List.set_cons_succ]
      refine wpAnyH_take (i := 21) (v := ?_) rfl (by kernel_rfl) (by kernel_rfl) (by kernel_rfl) (fun _ _ _ h => h) (Or.inl ⟨by rfl, ?_⟩) hS0 ?_
      rotate_left
      · (intro w hSw; obtain ⟨q1, q2⟩ := hSw; go_simp; try with_reducible rfl)
      simp only [Act.put, List.setIfInBounds_toArray, List.set_cons_zero, List.set_cons_succ]
      refine wpAnyH_take (i := 22) (v := ?_) rfl (by kernel_rfl) (by kernel_rfl) (by kernel_rfl) (fun _ _ _ h => h) (Or.inl ⟨by rfl, ?_⟩) hS0 ?_
      rotate_left
      · (intro w hSw; obtain ⟨q1, q2⟩ := hSw; go_simp; try with_reducible rfl)
      simp only [Act.put, List.setIfInBounds_toArray, List.set_cons_zero, List.set_cons_succ]
      refine wpAnyH_take (i := 23) (v := ?_) rfl (by kernel_rfl) (by kernel_rfl) (by kernel_rfl) (fun _ _ _ h => h) (Or.inl ⟨by rfl, ?_⟩) hS0 ?_
      rotate_left
      · (intro w hSw; obtain ⟨q1, q2⟩ := hSw; go_simp; try with_reducible rfl)
      simp only [Act.put, List.setIfInBounds_toArray, List.set_cons_zero, List.set_cons_succ]
      refine wpAnyH_take (i := 24) (v := ?_) rfl (by kernel_rfl) (by kernel_rfl) (by kernel_rfl) (fun _ _ _ h => h) (Or.inl ⟨by rfl, ?_⟩) hS0 ?_
      rotate_left
      · (intro w hSw; obtain ⟨q1, q2⟩ := hSw; go_simp; try with_reducible rfl)
      simp only [Act.put, List.setIfInBounds_toArray, List.set_cons_zero, List.set_cons_succ]
      refine wpAnyH_take (i := 25) (v := ?_) rfl (by kernel_rfl) (by kernel_rfl) (by kernel_rfl) (fun _ _ _ h => h) (Or.inl ⟨by rfl, ?_⟩) hS0 ?_
      rotate_left
      · (intro w hSw; obtain ⟨q1, q2⟩ := hSw; go_simp; try with_reducible rfl)
      simp only [Act.put, List.setIfInBounds_toArray, List.set_cons_zero, List.set_cons_succ]
      refine wpAnyH_ready (rs := [5]) (by kernel_rfl) (by simp) (AllReadyH.cons (i := 5) rfl (fun K' hK => ?_) AllReadyH.nil)
      go_simp
      refine hK.out _ _ (S1.out _ KA.out) (fun _ => ?_)
      clear hK
      refine wpAnyH_ready (rs := [15]) (by kernel_rfl) (by simp) (AllReadyH.cons (i := 15) rfl (fun K' hK => ?_) AllReadyH.nil)
      refine step_append_at (by rfl) (.tmp 35) (.tmp 44) 39 (by rfl) W.heap.size 27 t0 zE 4 32 Try.underlying39 hi hz0 hz1 hz2 rfl (by decide) (.slice (some ⟨W.heap.size, 0, none⟩) 0 0) 0 [] (by rfl) O1.out ⟨g, 0, none⟩ p _ (flat (L.take p)) (by rfl) LT.out (N1.out _ KA.out) (flat_one _) M.out.1 M.out.2.1 M.out.2.2.2.2.1 ?_
      intro v1 w2 ho1 hg1 hi1 hb1
      have hK2 := K1.out _ _ _ KA.out hg1 M.out.2.2.2.2.2
      refine hK.out _ _ (S1.out _ hK2) (fun _ => ?_)
      clear hK
      change wpAnyH _ _ _ _ _ _ _ (Act.put _ (some 45) _) _
      simp only [Act.put, List.setIfInBounds_toArray, List.set_cons_zero, List.set_cons_succ]
      refine wpAnyH_ready (rs := [26]) (by kernel_rfl) (by simp) (AllReadyH.cons (i := 26) rfl (fun K' hK => ?_) AllReadyH.nil)
      refine step_append_at (by rfl) (.tmp 45) (.tmp 55) 39 (by rfl) W.heap.size 27 t0 zE 4 32 Try.underlying39 hi hz0 hz1 hz2 rfl (by decide) v1 (0 + p) _ (by rfl) ho1 _ 0 _ (flat (L.drop (p + 1))) (by rfl) LD1.out (N2.out _ hK2) (flat_one _) M1.out M2.out hK2.size ?_
      intro v2 w3 ho2 hg2 hi2 hb2
      have hK3 := K1.out _ _ _ hK2 hg2 (fun k e => (ho1.lt k e).1)
      refine hK.out _ _ (S1.out _ hK3) (fun _ => ?_)
      clear hK
      change wpAnyH _ _ _ _ _ _ _ (Act.put _ (some 56) _) _
      simp only [Act.put, List.setIfInBounds_toArray, List.set_cons_zero, List.set_cons_succ]
      obtain ⟨g2, cap2, rest2, rfl, hq⟩ := own_blk ho2 (fun e => by have := (hi1.1 (hi2.1 e).1).1; cases this)
      obtain ⟨hF3, hF4⟩ := F1.out _ hK3
      obtain ⟨hS5, hS6⟩ := S1.out _ hK3
      refine wpAnyH_take (i := 27) (v := ?_) rfl (by kernel_rfl) (by kernel_rfl) (by kernel_rfl) (fun _ _ _ h => h) (Or.inl ⟨by rfl, ?_⟩) (S1.out _ hK3) ?_
      rotate_left
      · (intro w hSw; obtain ⟨q1, q2⟩ := hSw; go_simp; try with_reducible rfl)
      simp only [Act.put, List.setIfInBounds_toArray, List.set_cons_zero, List.set_cons_succ]
      refine wpAnyH_done (by kernel_rfl) ?_ _
      refine Pop.before_normal ?_
      refine wpOp_step (i := 28) rfl (fun K' hK => ?_)
      have HO2 := hid ho2
      have HK3 := hid hK3
      clear ho1 ho2 hg1 hg2 hi1 hi2 hb1 hb2 hK2 hK3 hq hS0
      go_simp
      refine hK _ _ ?_
      obtain ⟨l0, l1, l2, l3, l4, l5⟩ := (Blk.ot' (HL4.out.mod HK3.out (no _)) hneL s (.slice (some ⟨g2, 0, none⟩) p cap2)).four
      obtain ⟨r0, r1, r2, r3, r4, r5⟩ := (Blk.ot' (HL9.out.mod HK3.out (no _)) hneR s (.slice (some ⟨g2, 0, none⟩) p cap2)).four
      have HL := hid (Blk.ot' (HL4.out.mod HK3.out (no _)) hneL s (.slice (some ⟨g2, 0, none⟩) p cap2))
      go_wp2
      have hLL : (L.take p ++ L.drop (p + 1)).length = p := by rw [List.length_append, List.length_take, List.length_drop]; omega
      have ho4 := HO2.out
      rw [show 0 + p + 0 = p by omega, List.nil_append] at ho4
      have ho5 : w3.ownsRow W.heap.size 27 4 (.slice (some ⟨g2, 0, none⟩) p cap2) (L.take p ++ L.drop (p + 1)).length (flat (L.take p ++ L.drop (p + 1))) := by
        rw [hLL]
        have : flat (L.take p ++ L.drop (p + 1)) = flat (L.take p) ++ flat (L.drop (p + 1)) := by unfold flat; rw [List.flatMap_append]
        rw [this]
        exact ho4
      refine bodyPost_ret (res_eu (e := o) rfl _ rfl rfl (Blk.setE HL.out o)) rfl ⟨rfl, ?_⟩
      rw [HX.out]
      exact HS.out.newrowB w3 _ _ _ W.heap.size (fun k => k = w.heap.size) (hkW.trans HK3.out (fun _ _ e => e)) hwW ho5 (Keep.set4 (Keep.refl (fun k => k = w.heap.size) _) (fun _ => rfl) _ _ _ _ _ _ _ _) (fun k hk => by subst hk; exact ⟨Nat.le_refl _, HL4.out.lt⟩)
    · refine Pop.wp_region_pop (m := 28) (S := fun w' => w'.cell? ⟨br, 1, none⟩ = some (.slice (some ⟨ba, 0, none⟩) n cap) ∧ w'.cell? ⟨ba, s, none⟩ = some (.slice (some ⟨g, 0, none⟩) L.length rcap)) (by kernel_rfl) (by kernel_rfl) ?_
      have hS0 := S1.out _ ((Keep.refl No W).drew)
      refine wpAnyH_take (i := 0) (v := ?_) rfl (by kernel_rfl) (by kernel_rfl) (by kernel_rfl) (fun _ _ _ h => h) (Or.inl ⟨by rfl, ?_⟩) hS0 ?_
      rotate_left
      · (intro w hSw; obtain ⟨q1, q2⟩ := hSw; go_simp; try with_reducible rfl)
      simp only [Act.put, List.setIfInBounds_toArray, List.set_cons_zero, List.set_cons_succ]
      refine wpAnyH_take (i := 1) (v := ?_) rfl (by kernel_rfl) (by kernel_rfl) (by kernel_rfl) (fun _ _ _ h => h) (Or.inl ⟨by rfl, ?_⟩) hS0 ?_
      rotate_left
      · (intro w hSw; obtain ⟨q1, q2⟩ := hSw; go_simp; try with_reducible rfl)
      simp only [Act.put, List.setIfInBounds_toArray, List.set_cons_zero, List.set_cons_succ]
      refine wpAnyH_take (i := 2) (v := ?_) rfl (by kernel_rfl) (by kernel_rfl) (by kernel_rfl) (fun _ _ _ h => h) (Or.inl ⟨by rfl, ?_⟩) hS0 ?_
      rotate_left
      · (intro w hSw; obtain ⟨q1, q2⟩ := hSw; go_simp; try with_reducible rfl)
      simp only [Act.put, List.setIfInBounds_toArray, List.set_cons_zero, List.set_cons_succ]
      refine wpAnyH_take (i := 3) (v := ?_) rfl (by kernel_rfl) (by kernel_rfl) (by kernel_rfl) (fun _ _ _ h => h) (Or.inl ⟨by rfl, ?_⟩) hS0 ?_
      rotate_left
      · (intro w hSw; obtain ⟨q1, q2⟩ := hSw; go_simp; try with_reducible rfl)
      simp only [Act.put, List.setIfInBounds_toArray, List.set_cons_zero, List.set_cons_succ]
      refine wpAnyH_take (i := 4) (v := ?_) rfl (by kernel_rfl) (by kernel_rfl) (by kernel_rfl) (fun _ _ _ h => h) (Or.inl ⟨by rfl, ?_⟩) hS0 ?_
      rotate_left
      · (intro w hSw; obtain ⟨q1, q2⟩ := hSw; go_simp; try with_reducible rfl)
      simp only [Act.put, List.setIfInBounds_toArray, List.set_cons_zero, List.set_cons_succ]
      refine wpAnyH_take (i := 6) (v := ?_) rfl (by kernel_rfl) (by kernel_rfl) (by kernel_rfl) (fun _ _ _ h => h) (Or.inl ⟨by rfl, ?_⟩) hS0 ?_
      rotate_left
      · (intro w hSw; obtain ⟨q1, q2⟩ := hSw; go_simp; try with_reducible rfl)
      simp only [Act.put, List.setIfInBounds_toArray, List.set_cons_zero, List.set_cons_succ]
      refine wpAnyH_take (i := 7) (v := ?_) rfl (by kernel_rfl) (by kernel_rfl) (by kernel_rfl) (fun _ _ _ h => h) (Or.inl ⟨by rfl, ?_⟩) hS0 ?_
      rotate_left
      · (intro w hSw; obtain ⟨q1, q2⟩ := hSw; go_simp; try with_reducible rfl)
      simp only [Act.put, List.setIfInBounds_toArray, List.set_cons_zero, List.set_cons_succ]
      refine wpAnyH_take (i := 8) (v := ?_) rfl (by kernel_rfl) (by kernel_rfl) (by kernel_rfl) (fun _ _ _ h => h) (Or.inl ⟨by rfl, ?_⟩) hS0 ?_
      rotate_left
      · (intro w hSw; obtain ⟨q1, q2⟩ := hSw; go_simp; try with_reducible rfl)
      simp only [Act.put, List.setIfInBounds_toArray, List.set_cons_zero, List.set_cons_succ]
      refine wpAnyH_take (i := 9) (v := ?_) rfl (by kernel_rfl) (by kernel_rfl) (by kernel_rfl) (fun _ _ _ h => h) (Or.inl ⟨by rfl, ?_⟩) hS0 ?_
      rotate_left
      · (intro w hSw; obtain ⟨q1, q2⟩ := hSw; go_simp; try with_reducible rfl)
      simp only [Act.put, List.setIfInBounds_toArray, List.set_cons_zero, List.set_cons_succ]
      refine wpAnyH_take (i := 10) (v := ?_) rfl (by kernel_rfl) (by kernel_rfl) (by kernel_rfl) (fun _ _ _ h => h) (Or.inl ⟨by rfl, ?_⟩) hS0 ?_
      rotate_left
      · (intro w hSw; obtain ⟨q1, q2⟩ := hSw; go_simp; try with_reducible rfl)
      simp only [Act.put, List.setIfInBounds_toArray, List.set_cons_zero, List.set_cons_succ]
      refine wpAnyH_take (i := 11) (v := ?_) rfl (by kernel_rfl) (by kernel_rfl) (by kernel_rfl) (fun _ _ _ h => h) (Or.inl ⟨by rfl, ?_⟩) hS0 ?_
      rotate_left
      · (intro w hSw; obtain ⟨q1, q2⟩ := hSw; go_simp; try with_reducible rfl)
      simp only [Act.put, List.setIfInBounds_toArray, List.set_cons_zero, List.set_cons_succ]
      refine wpAnyH_take (i := 12) (v := ?_) rfl (by kernel_rfl) (by kernel_rfl) (by kernel_rfl) (fun _ _ _ h => h) (Or.inl ⟨by rfl, ?_⟩) hS0 ?_
      rotate_left
      · (intro w hSw; obtain ⟨q1, q2⟩ := hSw; go_simp; try with_reducible rfl)
      simp only [Act.put, List.setIfInBounds_toArray, List.set_cons_zero, List.set_cons_succ]
      refine wpAnyH_take (i := 13) (v := ?_) rfl (by kernel_rfl) (by kernel_rfl) (by kernel_rfl) (fun _ _ _ h => h) (Or.inl ⟨by rfl, ?_⟩) hS0 ?_
      rotate_left
      · (intro w hSw; obtain ⟨q1, q2⟩ := hSw; go_simp; try with_reducible rfl)
      simp only [Act.put, List.setIfInBounds_toArray, List.set_cons_zero, List.set_cons_succ]
      refine wpAnyH_take (i := 14) (v := ?_) rfl (by kernel_rfl) (by kernel_rfl) (by kernel_rfl) (fun _ _ _ h => h) (Or.inl ⟨by rfl, ?_⟩) hS0 ?_
      rotate_left
      · (intro w hSw; obtain ⟨q1, q2⟩ := hSw; go_simp; try with_reducible rfl)
      simp only [Act.put, List.setIfInBounds_toArray, List.set_cons_zero, List.set_cons_succ]
      refine wpAnyH_take (i := 16) (v := ?_) rfl (by kernel_rfl) (by kernel_rfl) (by kernel_rfl) (fun _ _ _ h => h) (Or.inl ⟨by rfl, ?_⟩) hS0 ?_
      rotate_left
      · (intro w hSw; obtain ⟨q1, q2⟩ := hSw; go_simp; try with_reducible rfl)
      simp only [Act.put, List.setIfInBounds_toArray, List.set_cons_zero, List.set_cons_succ]
      refine wpAnyH_take (i := 17) (v := ?_) rfl (by kernel_rfl) (by kernel_rfl) (by kernel_rfl) (fun _ _ _ h => h) (Or.inl ⟨by rfl, ?_⟩) hS0 ?_
      rotate_left
      · (intro w hSw; obtain ⟨q1, q2⟩ := hSw; go_simp; try with_reducible rfl)
      simp only [Act.put, List.setIfInBounds_toArray, List.set_cons_zero, List.set_cons_succ]
      refine wpAnyH_take (i := 18) (v := ?_) rfl (by kernel_rfl) (by kernel_rfl) (by kernel_rfl) (fun _ _ _ h => h) (Or.inl ⟨by rfl, ?_⟩) hS0 ?_
      rotate_left
      · (intro w hSw; obtain ⟨q1, q2⟩ := hSw; go_simp; try with_reducible rfl)
      simp only [Act.put, List.setIfInBounds_toArray, List.set_cons_zero, List.set_cons_succ]
      refine wpAnyH_take (i := 19) (v := ?_) rfl (by kernel_rfl) (by kernel_rfl) (by kernel_rfl) (fun _ _ _ h => h) (Or.inl ⟨by rfl, ?_⟩) hS0 ?_
      rotate_left
      · (intro w hSw; obtain ⟨q1, q2⟩ := hSw; go_simp; try with_reducible rfl)
      simp only [Act.put, List.setIfInBounds_toArray, List.set_cons_zero, List.set_cons_succ]
      refine wpAnyH_take (i := 20) (v := ?_) rfl (by kernel_rfl) (by kernel_rfl) (by kernel_rfl) (fun _ _ _ h => h) (Or.inl ⟨by rfl, ?_⟩) hS0 ?_
      rotate_left
      · (intro w hSw; obtain ⟨q1, q2⟩ := hSw; go_simp; try with_reducible rfl)
      simp only [Act.put, List.setIfInBounds_toArray, List.set_cons_zero, List.set_cons_succ]
      refine wpAnyH_take (i := 21) (v := ?_) rfl (by kernel_rfl) (by kernel_rfl) (by kernel_rfl) (fun _ _ _ h => h) (Or.inl ⟨by rfl, ?_⟩) hS0 ?_
      rotate_left
      · (intro w hSw; obtain ⟨q1, q2⟩ := hSw; go_simp; try with_reducible rfl)
      simp only [Act.put, List.setIfInBounds_toArray, List.set_cons_zero, List.set_cons_succ]
      refine wpAnyH_take (i := 22) (v := ?_) rfl (by kernel_rfl) (by kernel_rfl) (by kernel_rfl) (fun _ _ _ h => h) (Or.inl ⟨by rfl, ?_⟩) hS0 ?_
      rotate_left
      · (intro w hSw; obtain ⟨q1, q2⟩ := hSw; go_simp; try with_reducible rfl)
      simp only [Act.put, List.setIfInBounds_toArray, List.set_cons_zero, List.set_cons_succ]
      refine wpAnyH_take (i := 23) (v := ?_) rfl (by kernel_rfl) (by kernel_rfl) (by kernel_rfl) (fun _ _ _ h => h) (Or.inl ⟨by rfl, ?_⟩) hS0 ?_
      rotate_left
      · (intro w hSw; obtain ⟨q1, q2⟩ := hSw; go_simp; try with_reducible rfl)
      simp only [Act.put, List.setIfInBounds_toArray, List.set_cons_zero, List.set_cons_succ]
      refine wpAnyH_take (i := 24) (v := ?_) rfl (by kernel_rfl) (by kernel_rfl) (by kernel_rfl) (fun _ _ _ h => h) (Or.inl ⟨by rfl, ?_⟩) hS0 ?_
      rotate_left
      · (intro w hSw; obtain ⟨q1, q2⟩ := hSw; go_simp; try with_reducible rfl)
      simp only [Act.put, List.setIfInBounds_toArray, List.set_cons_zero, List.set_cons_succ]
      refine wpAnyH_take (i := 25) (v := ?_) rfl (by kernel_rfl) (by kernel_rfl) (by kernel_rfl) (fun _ _ _ h => h) (Or.inl ⟨by rfl, ?_⟩) hS0 ?_
      rotate_left
      · (intro w hSw; obtain ⟨q1, q2⟩ := hSw; go_simp; try with_reducible rfl)
      simp only [Act.put, List.setIfInBounds_toArray, List.set_cons_zero, List.set_cons_succ]
      refine wpAnyH_ready (rs := [5]) (by kernel_rfl) (by simp) (AllReadyH.cons (i := 5) rfl (fun K' hK => ?_) AllReadyH.nil)
      go_simp
      refine hK.out _ _ (S1.out _ KA.out) (fun _ => ?_)
      clear hK
      refine wpAnyH_ready (rs := [15]) (by kernel_rfl) (by simp) (AllReadyH.cons (i := 15) rfl (fun K' hK => ?_) AllReadyH.nil)
      refine step_append_at (by rfl) (.tmp 35) (.tmp 44) 39 (by rfl) W.heap.size 27 t0 zE 4 32 Try.underlying39 hi hz0 hz1 hz2 rfl (by decide) (.slice (some ⟨W.heap.size, 0, none⟩) 0 0) 0 [] (by rfl) O1.out ⟨g, 0, none⟩ p _ (flat (L.take p)) (by rfl) LT.out (N1.out _ KA.out) (flat_one _) M.out.1 M.out.2.1 M.out.2.2.2.2.1 ?_
      intro v1 w2 ho1 hg1 hi1 hb1
      have hK2 := K1.out _ _ _ KA.out hg1 M.out.2.2.2.2.2
      refine hK.out _ _ (S1.out _ hK2) (fun _ => ?_)
      clear hK
      change wpAnyH _ _ _ _ _ _ _ (Act.put _ (some 45) _) _
      simp only [Act.put, List.setIfInBounds_toArray, List.set_cons_zero, List.set_cons_succ]
      refine wpAnyH_ready (rs := [26]) (by kernel_rfl) (by simp) (AllReadyH.cons (i := 26) rfl (fun K' hK => ?_) AllReadyH.nil)
      refine step_append_at (by rfl) (.tmp 45) (.tmp 55) 39 (by rfl) W.heap.size 27 t0 zE 4 32 Try.underlying39 hi hz0 hz1 hz2 rfl (by decide) v1 (0 + p) _ (by rfl) ho1 _ (L.length - (p + 1)) _ (flat (L.drop (p + 1))) (by rfl) LD.out (N2.out _ hK2) (flat_one _) M.out.2.2.1 M.out.2.2.2.1 hK2.size ?_
      intro v2 w3 ho2 hg2 hi2 hb2
      have hK3 := K1.out _ _ _ hK2 hg2 (fun k e => (ho1.lt k e).1)
      refine hK.out _ _ (S1.out _ hK3) (fun _ => ?_)
      clear hK
      change wpAnyH _ _ _ _ _ _ _ (Act.put _ (some 56) _) _
      simp only [Act.put, List.setIfInBounds_toArray, List.set_cons_zero, List.set_cons_succ]
      obtain ⟨g2, cap2, rest2, rfl, hq⟩ := own_blk ho2 (fun e => by have := (hi1.1 (hi2.1 e).1).1; cases this)
      obtain ⟨hF3, hF4⟩ := F1.out _ hK3
      obtain ⟨hS5, hS6⟩ := S1.out _ hK3
      refine wpAnyH_take (i := 27) (v := ?_) rfl (by kernel_rfl) (by kernel_rfl) (by kernel_rfl) (fun _ _ _ h => h) (Or.inl ⟨by rfl, ?_⟩) (S1.out _ hK3) ?_
      rotate_left
      · (intro w hSw; obtain ⟨q1, q2⟩ := hSw; go_simp; try with_reducible rfl)
      simp only [Act.put, List.setIfInBounds_toArray, List.set_cons_zero, List.set_cons_succ]
      refine wpAnyH_done (by kernel_rfl) ?_ _
      refine Pop.before_normal ?_
      refine wpOp_step (i := 28) rfl (fun K' hK => ?_)
      have HO2 := hid ho2
      have HK3 := hid hK3
      clear ho1 ho2 hg1 hg2 hi1 hi2 hb1 hb2 hK2 hK3 hq hS0
      go_simp
      refine hK _ _ ?_
      obtain ⟨l0, l1, l2, l3, l4, l5⟩ := (Blk.ot' (HL4.out.mod HK3.out (no _)) hneL s (.slice (some ⟨g2, 0, none⟩) (p + (L.length - (p + 1))) cap2)).four
      obtain ⟨r0, r1, r2, r3, r4, r5⟩ := (Blk.ot' (HL9.out.mod HK3.out (no _)) hneR s (.slice (some ⟨g2, 0, none⟩) (p + (L.length - (p + 1))) cap2)).four
      have HL := hid (Blk.ot' (HL4.out.mod HK3.out (no _)) hneL s (.slice (some ⟨g2, 0, none⟩) (p + (L.length - (p + 1))) cap2))
      go_wp2
      have hLL : (L.take p ++ L.drop (p + 1)).length = (p + (L.length - (p + 1))) := by rw [List.length_append, List.length_take, List.length_drop]; omega
      have ho4 := HO2.out
      rw [show 0 + p + (L.length - (p + 1)) = (p + (L.length - (p + 1))) by omega, List.nil_append] at ho4
      have ho5 : w3.ownsRow W.heap.size 27 4 (.slice (some ⟨g2, 0, none⟩) (p + (L.length - (p + 1))) cap2) (L.take p ++ L.drop (p + 1)).length (flat (L.take p ++ L.drop (p + 1))) := by
        rw [hLL]
        have : flat (L.take p ++ L.drop (p + 1)) = flat (L.take p) ++ flat (L.drop (p + 1)) := by unfold flat; rw [List.flatMap_append]
        rw [this]
        exact ho4
      refine bodyPost_ret (res_eu (e := o) rfl _ rfl rfl (Blk.setE HL.out o)) rfl ⟨rfl, ?_⟩
      rw [HX.out]
      exact HS.out.newrowB w3 _ _ _ W.heap.size (fun k => k = w.heap.size) (hkW.trans HK3.out (fun _ _ e => e)) hwW ho5 (Keep.set4 (Keep.refl (fun k => k = w.heap.size) _) (fun _ => rfl) _ _ _ _ _ _ _ _) (fun k hk => by subst hk; exact ⟨Nat.le_refl _, HL4.out.lt⟩)
end
end Go.Proofs.Ytaijfgajcmopfaa.Y6
