import Derived.Test.YtaijfgajcmopfaaX4
import Derived.Test.YtaijfgajcmopfaaW10
/- Stripe, Len, Stripes, All of an index that stands for lists; awake. -/
set_option linter.unusedVariables false
namespace Go.Proofs.Ytaijfgajcmopfaa.X5
open Go.RowKit Go.Shelf V Rh T W1 W2 W3 W4 W6 W7 W10 Rf X1 X2 X3 X4

def xall (n : Int) (Ls : List (List Ent)) : List Ent := if 0 ≤ n ∧ n < Ls.length then Ls.getD n.toNat [] else []

theorem Seq.mono {α : Type} {P : Program} {gf : Nat} {lb : Array Value} {encs : α → Array Value} {xs : List α} {w W : World} (h : Seq P gf lb encs xs w) (m : Keep No w W) : Seq P gf lb encs xs W :=
  fun l J Jx W2 hW2 => h l J Jx W2 (m.trans hW2 (fun _ _ e => e))

section
variable {w : World} {p : Value} {most : Nat} {Ls : List (List Ent)} {F : Nat → Prop}

theorem stripe_has (hH : Has w p most Ls F) (h : Int) (hh : 0 ≤ h) (hh2 : h < 18446744073709551616) :
    Calls Try.prog 20 #[p, .int .u64 h] w fun e w' => e = .returned (.int .i64 (stripeI Ls.length h : Nat)) ∧ w = w' := by
  obtain ⟨bx, bl, bts, bss, rfl, hX, rfl⟩ := hH
  obtain ⟨cap, hb⟩ := hX.head
  exact stripe_any bx bl _ cap h w hb hX.pos hX.most64 hh hh2

theorem stripes_has (hH : Has w p most Ls F) : Calls Try.prog 10 #[p] w fun e w' => e = .returned (.int .i64 Ls.length) ∧ w = w' := by
  obtain ⟨bx, bl, bts, bss, rfl, hX, rfl⟩ := hH
  obtain ⟨cap, hb⟩ := hX.head
  exact stripes_any bx bl _ cap w hb

theorem len_has (hH : Has w p most Ls F) (n : Int) : Calls Try.prog 19 #[p, .int .i64 n] w fun e w' => e = .returned (.int .i64 (xall n Ls).length) ∧ w = w' := by
  obtain ⟨bx, bl, bts, bss, rfl, hX, rfl⟩ := hH
  refine len_walk _ _ n _ w (stripeN_any bx bl most bts bss Ls n w hX) ?_
  unfold tabOf xall
  rw [hX.len1]
  split
  · rename_i hc
    obtain ⟨bits, es, hT, hI⟩ := hX.tabs n.toNat (by omega)
    exact len_any _ _ bits most _ es _ w hT hI
  · exact len_nil w

/-- the iterator of a stripe -/
theorem all_has (hH : Has w p most Ls F) (n : Int) : Calls Try.prog 11 #[p, .int .i64 n] w fun e w' => e = .returned (.func (.func 48) #[] #[.pointer (some ⟨w.heap.size, 0, none⟩)]) ∧ Keep No w w' ∧ Seq Try.prog 48 #[.pointer (some ⟨w.heap.size, 0, none⟩)] encs (xall n Ls) w' := by
  obtain ⟨bx, bl, bts, bss, rfl, hX, rfl⟩ := hH
  have hp : tabOf bts n = .pointer none ∨ ∃ b, tabOf bts n = .pointer (some ⟨b, 0, none⟩) := by
    unfold tabOf
    split
    · exact .inr ⟨_, rfl⟩
    · exact .inl rfl
  refine (all_walk _ _ n w (stripeN_any bx bl most bts bss Ls n w hX) (all_any _ w hp)).mono ?_
  rintro e w' ⟨rfl, rfl⟩
  refine ⟨rfl, (Keep.refl _ _).alloc _, ?_⟩
  have hB : Blk (w.alloc (.cells #[tabOf bts n] 70)) w.heap.size [tabOf bts n] 70 := Blk.new' _ rfl
  have hX' := hX.keep ((Keep.refl No _).alloc (.cells #[tabOf bts n] 70)) (fun _ _ => no _)
  clear hX
  revert hB
  unfold xall
  split
  · rename_i hc
    intro hB
    obtain ⟨bits, es, hT, hI⟩ := hX'.tabs n.toNat (by omega)
    refine all_seq _ _ _ bits most _ es _ _ ?_ hT hI
    have : tabOf bts n = ptr (bts.getD n.toNat 0) := by rw [tabOf, if_pos (by rw [hX'.len1]; exact hc)]
    rw [this] at hB ⊢
    exact hB
  · rename_i hc
    intro hB
    have : tabOf bts n = .pointer none := by rw [tabOf, if_neg (by rw [hX'.len1]; exact hc)]
    rw [this] at hB ⊢
    exact all_seq_nil _ _ hB
end

theorem has_new {w : World} {bx bl : Nat} {bts bss : List Nat} {most : Nat} {Ls : List (List Ent)} (h : Idx w bx bl bts bss most Ls) : Has w (ptr bx) most Ls (Foot bx bl bts bss) := ⟨_, _, _, _, rfl, h, rfl⟩

def e1 : Ent := ⟨5, 281474976710656, 3, 0⟩
def e2 : Ent := ⟨5, 562949953421312, 2, 0⟩
theorem xput1 : xput 4 e1 [[], []] = (none, 0, [[], [e1]]) := by decide
theorem xput2 : xput 4 e2 [[], [e1]] = (none, 120, [[], [e1]]) := by decide
theorem xget1 : xget 5 [[], [e1]] = some e1 := by decide

set_option maxRecDepth 100000 in
set_option maxHeartbeats 1000000 in
theorem awake_any (w : World) : Calls Try.prog 18 #[] w fun e w' => e = .returned (.bool true) ∧ Keep No w w' := by
  have hnew := new_any 2 2 4 w (by decide) (by decide) (by decide) (by decide) (by decide)
  have hput1 : ∀ W p F, Has W p 4 [[], []] F → Calls Try.prog 21 #[p, valE e1] W fun e' w' => e' = .returned (.tuple #[valE z, .bool false, .int .i64 0]) ∧ Then W w' p 4 [[], [e1]] F := fun W p F h => by
    have := put_has h e1 (by unfold Ent.ok; decide)
    rw [xput1] at this
    exact this
  have hput2 : ∀ W p F, Has W p 4 [[], [e1]] F → Calls Try.prog 21 #[p, valE e2] W fun e' w' => e' = .returned (.tuple #[valE z, .bool false, .int .i64 120]) ∧ Then W w' p 4 [[], [e1]] F := fun W p F h => by
    have := put_has h e2 (by unfold Ent.ok; decide)
    rw [xput2] at this
    exact this
  have hget : ∀ W p F, Has W p 4 [[], [e1]] F → Calls Try.prog 26 #[p, .int .u64 5] W fun e' w' => e' = .returned (.tuple #[valE e1, .bool true]) ∧ Keep No W w' := fun W p F h => by
    have := get_has h 5 (by decide) (by decide)
    rw [xget1] at this
    exact this
  have hstr : ∀ W p F, Has W p 4 [[], [e1]] F → Calls Try.prog 20 #[p, .int .u64 5] W fun e' w' => e' = .returned (.int .i64 1) ∧ W = w' := fun W p F h => stripe_has h 5 (by decide) (by decide)
  have hlen : ∀ W p F, Has W p 4 [[], [e1]] F → Calls Try.prog 19 #[p, .int .i64 1] W fun e' w' => e' = .returned (.int .i64 1) ∧ W = w' := fun W p F h => len_has h 1
  have v1 : valE e1 = .agg #[.int .u64 5, .int .u64 281474976710656, .int .u64 3, .int .u8 0] := rfl
  have v2 : valE e2 = .agg #[.int .u64 5, .int .u64 562949953421312, .int .u64 2, .int .u8 0] := rfl
  have v0 : valE z = .agg #[.int .u64 0, .int .u64 0, .int .u64 0, .int .u8 0] := rfl
  rw [v0, v1] at hput1
  rw [v0, v2] at hput2
  rw [v1] at hget
  clear v0 v1 v2
  go_enter Try.func18, Try.ntmps18
  go_wp2_with (first | (go_at_call 30; refine hnew.mono ?_; rintro e w1 ⟨bx, rfl, bl, bts, bss, hX, hF, hk⟩; have HK1 := hid hk; have HX1 := hid (has_new hX); have HF := hid hF; clear hX hF hk; unfold ptr at *))
  refine (hput1 _ _ _ HX1.out).mono ?_
  rintro e w2 ⟨rfl, hk, F2, hH, hF2⟩
  have HK2 := hid ((HK1.out.trans hk (fun k hk hf => absurd (HF.out k hf) (by omega))) : Keep No w w2)
  have HF2 := hid (show ∀ k, F2 k → w.heap.size ≤ k from fun k hk => (hF2 k hk).elim (HF.out k) (fun h => Nat.le_trans HK1.out.size h))
  have HX2 := hid hH
  clear hk hH hF2 HX1 HF HK1
  go_wp2_with fail
  refine (hput2 _ _ _ (HX2.out.keep ((Keep.refl No _).alloc _) (fun _ _ => no _))).mono ?_
  rintro e w3 ⟨rfl, hk, F3, hH, hF3⟩
  have HK3 := hid (((HK2.out.alloc _).trans hk (fun k hk hf => absurd (HF2.out k hf) (by omega))) : Keep No w w3)
  have HX3 := hid hH
  clear hk hH hF3 HX2 HF2 HK2
  go_wp2_with fail
  refine (hget _ _ _ (HX3.out.keep ((Keep.refl No _).alloc _) (fun _ _ => no _))).mono ?_
  rintro e w4 ⟨rfl, hk⟩
  have HK4 := hid ((HK3.out.alloc _).trans hk (fun k hk hf => hf))
  have HX4 := hid ((HX3.out.keep ((Keep.refl No _).alloc _) (fun _ _ => no _)).keep hk (fun _ _ => no _))
  clear hk HX3 HK3
  go_wp2_with (first | (go_at_call 20; refine (hstr _ _ _ (HX4.out.keep ((Keep.refl No _).alloc _) (fun _ _ => no _))).mono ?_; rintro e w5 ⟨rfl, rfl⟩) | (go_at_call 19; refine (hlen _ _ _ (HX4.out.keep ((Keep.refl No _).alloc _) (fun _ _ => no _))).mono ?_; rintro e w5 ⟨rfl, rfl⟩))
  go_ret
  exact ⟨rfl, HK4.out.alloc _⟩
end Go.Proofs.Ytaijfgajcmopfaa.X5
