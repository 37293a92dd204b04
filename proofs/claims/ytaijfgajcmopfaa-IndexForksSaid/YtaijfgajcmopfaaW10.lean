import Derived.Test.YtaijfgajcmopfaaW9
import Derived.Test.YtaijfgajcmopfaaRf
import Derived.Shelf.Abstract
import Derived.OwnWalkIn
import Derived.TacticsInMore
import Derived.LoopNIn
import Derived.LoopIn
/- The iterator of a table's entries. -/
set_option linter.unusedVariables false
namespace Go.Proofs.Ytaijfgajcmopfaa.W10
open Go.RowKit Go.Shelf V Rh T W1 W2 W3 W4 W5 W8 W9 Rf
attribute [local go_sem] Oper.semAt_some

def encs (e : Ent) : Array Value := #[valE e]

theorem all_any (p : Value) (w : World) (hp : p = .pointer none ∨ ∃ b, p = .pointer (some ⟨b, 0, none⟩)) :
    Calls Try.prog 28 #[p] w fun e w' => e = .returned (.func (.func 48) #[] #[.pointer (some ⟨w.heap.size, 0, none⟩)]) ∧ w.alloc (.cells #[p] 70) = w' := by
  rcases hp with rfl | ⟨b, rfl⟩
  all_goals
    go_enter Try.func28, Try.ntmps28
    go_wp2
    go_ret
    exact ⟨rfl, rfl⟩

theorem take_succ_gt {L : List Ent} {k : Nat} (hk : k < L.length) : L.take (k + 1) = L.take k ++ [gt L k] := by rw [List.take_succ_eq_append_getElem hk, gt_of_lt hk]

set_option maxRecDepth 100000 in
set_option maxHeartbeats 2000000 in
theorem all_seq (b0 bt bs bits most n : Nat) (es L : List Ent) (w : World) (hb : Blk w b0 [.pointer (some ⟨bt, 0, none⟩)] 70) (hT : Tab w bt bs bits most es n) (hI : TInv bits most es L) :
    Seq Try.prog 48 #[.pointer (some ⟨b0, 0, none⟩)] encs L w := by
  intro l J Jx W hW h0 hJ hJx hY
  have hb' := hb.mod hW (no _)
  obtain ⟨z0, c0, f0⟩ := hb'.one
  have hT' := hT.mod hW (no _) (no _)
  have hlay := layout_any bt bs bits most n es L W hT' hI
  have hN2 := hI.n_le
  rw [← hI.len] at hN2
  have hLn : L.length ≤ 65536 := by have := hI.room; have := hI.n_le; omega
  obtain ⟨i0, hi0⟩ : ∃ i0, es.findIdx? (fun e => !e.full) = some i0 := by
    obtain ⟨q, hq, hqf⟩ := hI.free
    rw [← hI.len] at hq
    cases h : es.findIdx? (fun e => !e.full) with
    | some i => exact ⟨i, rfl⟩
    | none =>
      rw [List.findIdx?_eq_none_iff] at h
      have := h _ (List.getElem_mem hq)
      rw [← gt_of_lt hq, hqf] at this
      cases this
  have HI := hid hI
  have HI0 := hid hi0
  have H0 := hid h0
  have HJ := hid hJ
  have HJx := hid hJx
  have HY := hid hY
  clear hW hb hb' hT hT' hI hi0 h0 hJ hJx hY
  refine (callsIn_wide (n := 9)).1 (callsIn_of_wp Try.func48 rfl trivial ?_ rfl)
  simp only [Try.ntmps48, List.size_toArray, List.length_cons, List.length_nil, Nat.reduceAdd, Nat.reduceSub, Array.replicate_succ, Array.replicate_zero, List.push_toArray, List.append_toArray, List.nil_append, List.cons_append]
  have t1 : Fence.wide.fn 50 := trivial
  have t2 : Fence.wide.fn 49 := trivial
  have t3 : Fence.wide.fn 52 := trivial
  gi_wp2_with fail
  refine CallsIn.mono (callsIn_wide.2 hlay) ?_
  rintro e Wa ⟨v, rfl, hv, ho, hk⟩
  obtain ⟨g, cap, rest, rfl, hg1, hg2, hg3, hgb, hgl⟩ := own_blk ho hv
  have hka := hid hk
  have hdel := deleteFunc_any g cap i0 es rest Wa hgb hN2 hg2 HI0.out
  clear hk hgb hgl ho hv
  gi_wp2_with fail
  refine CallsIn.mono (callsIn_wide.2 hdel) ?_
  rintro e Wb ⟨rfl, ⟨rest', hB⟩, hk⟩
  have hpm := HI.out.perm
  have hkb := hid (hka.out.trans hk (fun i hi h => by omega))
  have hsort := sortEntries g cap (there es) L rest' Wb hB (by rw [hpm.length_eq]; exact hLn) HI.out.sorted hpm
  clear hk hB
  gi_wp2_with fail
  refine CallsIn.mono (callsIn_wide.2 hsort) ?_
  rintro e Wc ⟨rfl, hB, hk⟩
  have hkc := hid (hkb.out.trans hk (fun i hi h => by omega))
  have HB := hid hB
  have hgz := hB.lt
  have hLlen : (there es).length = L.length := hpm.length_eq
  have hJ0 := hid (H0.out (fun k => k = g) Wc hkc.out (by rintro k rfl; exact ⟨hg1, hgz⟩))
  rw [hLlen]
  clear hk hB hpm hLlen hsort hdel hlay
  gi_wp2
  gi_loopw [13] (fun i wr => ∃ k : Nat, i = .int .i64 k ∧ k ≤ L.length ∧ J (fun k => k = g) (L.take k) wr ∧ Blk wr g (flat L ++ rest') 27) (fun i _ => L.length - (intOf i).toNat)
  case atStart => exact ⟨0, rfl, Nat.zero_le _, hJ0.out, HB.out⟩
  case round =>
    obtain ⟨k, rfl, hk, hJk, hBk⟩ := hrel
    have hgk := hBk.lt
    by_cases hlt : k < L.length
    · obtain ⟨s0, s1, s2, s3⟩ := slot hBk hlt
      have hk0 : 0 ≤ (k : Int) := by omega
      have hk1 : (k : Int) < L.length := by omega
      have hpre : (L.take k ++ [gt L k]) <+: L := by rw [← take_succ_gt hlt]; exact List.take_prefix _ _
      obtain ⟨fn, tmps, assign, body, hy, hR⟩ := HY.out (fun k => k = g) (L.take k) (gt L k) (wr.alloc (.cells #[.int .u64 (gt L k).h, .int .u64 (gt L k).a, .int .u64 (gt L k).v, .int .u8 (gt L k).c] 27))
        (HJ.out _ _ _ _ hJk ((Keep.refl _ _).alloc _) (by rintro k rfl; exact hgk)) hpre (by rintro k rfl; simp; omega)
      simp only [encs, valE] at hy
      have HBk := hid (hBk.alloc (.cells #[.int .u64 (gt L k).h, .int .u64 (gt L k).a, .int .u64 (gt L k).v, .int .u8 (gt L k).c] 27))
      clear hBk hJk hpre
      gi_wp2
      refine hR.mono ?_
      rintro e W3 (⟨rfl, hJ3, hS3⟩ | ⟨rfl, hJx3, hS3⟩)
      · have HJ3 := hid hJ3
        have HS3 := hid hS3
        clear hJ3 hS3
        gi_wp2
        exact ⟨⟨k + 1, by go_num, hlt, by rw [take_succ_gt hlt]; exact HJ3.out, (HS3.out.2 g rfl).trans HBk.out⟩, by simp [intOf]; omega⟩
      · have HJ3 := hid hJx3
        have HS3 := hid hS3
        clear hJx3 hS3
        gi_wp2
        refine bodyPost_ret (results_none rfl _ _ _) rfl ?_
        exact ⟨⟨_, rfl⟩, fun k => k = g, by rintro k rfl; exact ⟨hg1, Nat.lt_of_lt_of_le HBk.out.lt HS3.out.1⟩, .inr ⟨_, HJ3.out⟩⟩
    · have hke : k = L.length := by omega
      subst hke
      rw [List.take_length] at hJk
      have HJk := hid hJk
      clear hJk
      gi_wp2
      go_end0
      exact ⟨⟨_, rfl⟩, fun k => k = g, by rintro k rfl; exact ⟨hg1, hgk⟩, .inl HJk.out⟩

set_option maxRecDepth 100000 in
set_option maxHeartbeats 2000000 in
theorem deleteFunc_nil (w : World) : Calls Try.prog 49 #[.slice none 0 0, .func (.func 51) #[] #[]] w fun e w' => e = .returned (.slice none 0 0) ∧ w = w' := by
  have hix : Calls Try.prog 66 #[.slice none 0 0, .func (.func 51) #[] #[]] w fun e w' => e = .returned (.int .i64 (-1)) ∧ w = w' := by
    go_enter Try.func66, Try.ntmps66
    go_wp2
    refine wp_loop_rounds 1 ?_
    rw [rounds_succ]
    go_wp2
    go_ret
    exact ⟨rfl, rfl⟩
  go_enter Try.func49, Try.ntmps49
  go_wp2_with (go_at_call 66; refine hix.mono ?_; rintro e w1 ⟨rfl, rfl⟩)
  go_ret
  exact ⟨rfl, rfl⟩

set_option maxRecDepth 100000 in
set_option maxHeartbeats 2000000 in
theorem all_seq_nil (b0 : Nat) (w : World) (hb : Blk w b0 [.pointer none] 70) : Seq Try.prog 48 #[.pointer (some ⟨b0, 0, none⟩)] encs ([] : List Ent) w := by
  intro l J Jx W hW h0 hJ hJx hY
  obtain ⟨z0, c0, f0⟩ := (hb.mod hW (no _)).one
  have H0 := hid (h0 (fun _ => False) W (Keep.refl _ _) (fun _ h => h.elim))
  have hsort : Calls Try.prog 52 #[.slice none 0 0, .func (.func 53) #[] #[]] W fun e w' => e = .returned (.tuple #[]) ∧ w' = W := AnyF.slices_SortFunc_none { Try.sortEntry with } none 0 _ W
  have hdel := deleteFunc_nil W
  have hlay := layout_nil W
  clear hW hb h0 hJ hJx hY
  refine (callsIn_wide (n := 9)).1 (callsIn_of_wp Try.func48 rfl trivial ?_ rfl)
  simp only [Try.ntmps48, List.size_toArray, List.length_cons, List.length_nil, Nat.reduceAdd, Nat.reduceSub, Array.replicate_succ, Array.replicate_zero, List.push_toArray, List.append_toArray, List.nil_append, List.cons_append]
  have t1 : Fence.wide.fn 50 := trivial
  have t2 : Fence.wide.fn 49 := trivial
  have t3 : Fence.wide.fn 52 := trivial
  gi_wp2_with fail
  refine CallsIn.mono (callsIn_wide.2 hlay) ?_
  rintro e Wa ⟨rfl, rfl⟩
  gi_wp2_with fail
  refine CallsIn.mono (callsIn_wide.2 hdel) ?_
  rintro e Wb ⟨rfl, rfl⟩
  gi_wp2_with fail
  refine CallsIn.mono (callsIn_wide.2 hsort) ?_
  rintro e Wc ⟨rfl, rfl⟩
  gi_wp2
  gi_loopw [13] (fun i wr => i = .int .i64 0 ∧ J (fun _ => False) [] wr) (fun _ _ => 0)
  case atStart => exact ⟨rfl, H0.out⟩
  case round =>
    obtain ⟨rfl, hJ0⟩ := hrel
    have HJ0 := hid hJ0
    clear hJ0
    gi_wp2
    go_end0
    exact ⟨⟨_, rfl⟩, fun _ => False, fun _ h => h.elim, .inl HJ0.out⟩
end Go.Proofs.Ytaijfgajcmopfaa.W10
