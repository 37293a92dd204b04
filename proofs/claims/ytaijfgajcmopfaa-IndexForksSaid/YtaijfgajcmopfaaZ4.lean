import Derived.Test.YtaijfgajcmopfaaZ3
import Derived.Test.YtaijfgajcmopfaaY10
/- A call of both indexes; all; Fork. -/
set_option linter.unusedVariables false
set_option linter.unusedSimpArgs false
namespace Go.Proofs.Ytaijfgajcmopfaa.Z4
open Go.RowKit Go.Shelf V Rh T W1 W2 W3 W4 W6 W10 Rf X1 X2 X3 X4 X5 X6 X7 Pl Y1 Y2 Y3 Y4 Y5 Y6 Y7 Y8 Y9 Y10 Y12 Y14 Ap Z1 Z2 Z3

section
variable {w : World} {q : Value} {most : Nat} {Ls : List (List Ent)} {G : Nat → Prop}

theorem rget_has (hH : RHas w q most Ls G) (hG : GoodL most Ls) (h : Int) (hh : 0 ≤ h) (hh2 : h < 18446744073709551616) :
    Calls Try.prog 33 #[q, .int .u64 h] w fun e w' => e = .returned (.tuple #[valE ((xget h Ls).getD z), .bool (xget h Ls).isSome]) ∧ Keep No w w' := by
  obtain ⟨br, ba, vs, rfl, hX, rfl⟩ := hH; exact rget_any hX hG h hh hh2
theorem rstripe_has (hH : RHas w q most Ls G) (h : Int) (hh : 0 ≤ h) (hh2 : h < 18446744073709551616) :
    Calls Try.prog 34 #[q, .int .u64 h] w fun e w' => e = .returned (.int .i64 (stripeI Ls.length h : Nat)) ∧ w = w' := by
  obtain ⟨br, ba, vs, rfl, hX, rfl⟩ := hH
  obtain ⟨cap, _, hb⟩ := hX.head
  exact rstripe_any br ba most _ cap h w hb hX.pos hX.most64 hh hh2
theorem rput_has (hH : RHas w q most Ls G) (hG : GoodL most Ls) (e : Ent) (hok : e.ok) :
    Calls Try.prog 32 #[q, valE e] w fun e' w' => e' = .returned (.tuple #[valE ((xput most e Ls).1.getD z), .bool (xput most e Ls).1.isSome, .int .i64 (xput most e Ls).2.1]) ∧ RThen w w' q most (xput most e Ls).2.2 G := by
  obtain ⟨br, ba, vs, rfl, hX, rfl⟩ := hH; exact rput_any hX hG e hok
theorem rremove_has (hH : RHas w q most Ls G) (hG : GoodL most Ls) (h : Int) (hh : 0 ≤ h) (hh2 : h < 18446744073709551616) :
    Calls Try.prog 35 #[q, .int .u64 h] w fun e w' => e = .returned (.tuple #[valE ((xget h Ls).getD z), .bool (xget h Ls).isSome]) ∧ RThen w w' q most (xrem h Ls) G := by
  obtain ⟨br, ba, vs, rfl, hX, rfl⟩ := hH; exact rremove_any hX hG h hh hh2
theorem rremIf_has (hH : RHas w q most Ls G) (hG : GoodL most Ls) (h a : Int) (hh : 0 ≤ h) (hh2 : h < 18446744073709551616) :
    Calls Try.prog 36 #[q, .int .u64 h, .int .u64 a] w fun e w' => e = .returned (.bool (xremIf h a Ls).1) ∧ RThen w w' q most (xremIf h a Ls).2 G := by
  obtain ⟨br, ba, vs, rfl, hX, rfl⟩ := hH; exact rremIf_any hX hG h a hh hh2
theorem rmove_has (hH : RHas w q most Ls G) (hG : GoodL most Ls) (h fr to : Int) (hh : 0 ≤ h) (hh2 : h < 18446744073709551616) :
    Calls Try.prog 37 #[q, .int .u64 h, .int .u64 fr, .int .u64 to] w fun e w' => e = .returned (.bool (xmove most h fr to Ls).1) ∧ RThen w w' q most (xmove most h fr to Ls).2 G := by
  obtain ⟨br, ba, vs, rfl, hX, rfl⟩ := hH; exact rmove_any hX hG h fr to hh hh2
theorem rhit_has (hH : RHas w q most Ls G) (hG : GoodL most Ls) (h : Int) (hh : 0 ≤ h) (hh2 : h < 18446744073709551616) :
    Calls Try.prog 38 #[q, .int .u64 h] w fun e w' => e = .returned (.bool (xget h Ls).isSome) ∧ RThen w w' q most (xhit h Ls) G := by
  obtain ⟨br, ba, vs, rfl, hX, rfl⟩ := hH; exact rhit_any hX hG h hh hh2
theorem rpurge_has (hH : RHas w q most Ls G) (hG : GoodL most Ls) (n r : Int) (hr2 : r < 9223372036854775808) :
    Calls Try.prog 39 #[q, .int .i64 n, .int .i64 r] w fun e w' => e = .returned (.int .i64 ((xall n Ls).countP (phit r) : Nat)) ∧ RThen w w' q most (xpurge n r Ls) G := by
  obtain ⟨br, ba, vs, rfl, hX, rfl⟩ := hH; exact rpurge_any hX hG n r hr2
theorem rlen_has (hH : RHas w q most Ls G) (n : Int) (h1 : -9223372036854775808 ≤ n) (h2 : n < 9223372036854775808) :
    Calls Try.prog 41 #[q, .int .i64 n] w fun e w' => e = .returned (.int .i64 (xall n Ls).length) ∧ w = w' := by
  obtain ⟨br, ba, vs, rfl, hX, rfl⟩ := hH; exact rlen_any hX n h1 h2
theorem rentries_has (hH : RHas w q most Ls G) (hG : GoodL most Ls) (n : Int) :
    Calls Try.prog 60 #[q, .int .i64 n] w fun e w' => ∃ v, e = .returned v ∧ w'.ownsRow w.heap.size 27 4 v (xall n Ls).length (flat (xall n Ls)) ∧ Keep No w w' := by
  obtain ⟨br, ba, vs, rfl, hX, rfl⟩ := hH; exact rentries_any hX hG n
theorem rfork_has (hH : RHas w q most Ls G) (hG : GoodL most Ls) :
    Calls Try.prog 16 #[q] w fun e w' => ∃ q' G', e = .returned q' ∧ RHas w' q' most Ls G' ∧ (∀ k, G' k → w.heap.size ≤ k) ∧ Keep No w w' := by
  obtain ⟨br, ba, vs, rfl, hX, rfl⟩ := hH
  exact (rfork_any hX hG).mono fun e w' ⟨br', ba', vs', h1, h2, h3, h4⟩ => ⟨_, _, h1, ⟨_, _, _, rfl, h2, rfl⟩, h3, h4⟩
end

theorem fork_has {w : World} {p : Value} {most : Nat} {Ls : List (List Ent)} {F : Nat → Prop} (hH : Has w p most Ls F) :
    Calls Try.prog 15 #[p] w fun e w' => ∃ b F', e = .returned (ptr b) ∧ Has w' (ptr b) most Ls F' ∧ (∀ k, F' k → w.heap.size ≤ k) ∧ Keep No w w' := by
  obtain ⟨bx, bl, bts, bss, rfl, hX, rfl⟩ := hH
  exact (ifork_any hX).mono fun e w' ⟨bx', bl', bts', bss', h1, h2, h3, h4⟩ => ⟨_, _, h1, ⟨_, _, _, _, rfl, h2, rfl⟩, h3, h4⟩

theorem xall_small {most : Nat} {Ls : List (List Ent)} (hG : GoodL most Ls) (n : Int) : (xall n Ls).length ≤ 65536 := by
  unfold xall
  split
  · exact GoodL.small hG (by omega)
  · exact Nat.zero_le _

section
variable {w : World} {p q : Value} {most : Nat} {Ls : List (List Ent)} {F G : Nat → Prop}

theorem all_both (hB : Both w p q most Ls F G) (n stop : Int) : Calls Try.prog 40 #[p, q, .int .i64 n, .int .i64 stop] w fun e w' => e = .returned (.bool true) ∧ Keep No w w' :=
  all_same n stop (xall n Ls) (xall_small hB.good n) (fun W hW => rentries_has (hB.rhas.keep hW (fun _ _ => no _)) hB.good n) (fun W hW => all_has (hB.has.keep hW (fun _ _ => no _)) n)

theorem does_both (hB : Both w p q most Ls F G) (o : Opr) (hok : o.ok) :
    Calls Try.prog 14 #[p, q, valO o] w fun e w' => e = .returned (.bool true) ∧ BThen w w' p q most (xdo most o Ls) F G := by
  obtain ⟨he, ha1, ha2, hn1, hn2, hm1, hm2⟩ := hok
  have hg := hB.good
  have kA : ∀ W, Keep No w W → Has W p most Ls F := fun W hW => hB.has.keep hW (fun _ _ => no _)
  have kN : ∀ W, Keep No w W → RHas W q most Ls G := fun W hW => hB.rhas.keep hW (fun _ _ => no _)
  have kR : ∀ W, Keep F w W → RHas W q most Ls G := fun W hW => hB.rhas.keep hW (fun k hk hf => hB.off k hf hk)
  have hh := he.1
  have hh2 := he.2.1
  unfold xdo
  by_cases h0 : o.k = 0
  · rw [if_pos h0]
    exact does_put hB o _ _ _ (fun W hW => put_has (kA W hW) o.e he) (fun W hW => rput_has (kR W hW) hg o.e he) h0
  rw [if_neg h0]
  by_cases h2 : o.k = 2
  · rw [if_pos h2]
    exact does_remove hB o _ _ (fun W hW => remove_has (kA W hW) o.e.h hh hh2) (fun W hW => rremove_has (kR W hW) hg o.e.h hh hh2) h2
  rw [if_neg h2]
  by_cases h3 : o.k = 3
  · rw [if_pos h3]
    exact does_removeIf hB o _ (fun W hW => remIf_has (kA W hW) o.e.h o.at' hh hh2) (fun W hW => rremIf_has (kR W hW) hg o.e.h o.at' hh hh2) h3
  rw [if_neg h3]
  by_cases h4 : o.k = 4
  · rw [if_pos h4]
    exact does_move hB o _ (fun W hW => move_has (kA W hW) o.e.h o.at' o.e.a hh hh2 he.2.2.1 he.2.2.2.1) (fun W hW => rmove_has (kR W hW) hg o.e.h o.at' o.e.a hh hh2) h4
  rw [if_neg h4]
  by_cases h5 : o.k = 5
  · rw [if_pos h5]
    exact does_hit hB o _ (fun W hW => hit_has (kA W hW) o.e.h hh hh2) (fun W hW => rhit_has (kR W hW) hg o.e.h hh hh2) h5
  rw [if_neg h5]
  by_cases h6 : o.k = 6
  · rw [if_pos h6]
    exact does_purge hB o _ (fun W hW => purge_has (kA W hW) o.n o.m hm1 hm2) (fun W hW => rpurge_has (kR W hW) hg o.n o.m hm2) h6
  rw [if_neg h6]
  have fin : ∀ {e : Ending} {w' : World}, e = .returned (.bool true) ∧ Keep No w w' → e = .returned (.bool true) ∧ BThen w w' p q most Ls F G := fun h => ⟨h.1, hB.stays h.2⟩
  by_cases h1 : o.k = 1
  · exact (does_get o _ _ _ (fun W hW => get_has (kA W hW) o.e.h hh hh2) (fun W hW => rget_has (kN W hW) hg o.e.h hh hh2) (fun W hW => stripe_has (kA W hW) o.e.h hh hh2) (fun W hW => rstripe_has (kN W hW) o.e.h hh hh2) h1).mono fun e w' h => fin h
  by_cases h7 : o.k = 7
  · exact (does_all o (fun W hW => all_both (hB.keep hW (fun _ _ => no _)) o.n o.m) h7).mono fun e w' h => fin h
  by_cases h8 : o.k = 8
  · obtain ⟨br, ba, vs, hq, hX, _⟩ := id hB.rhas
    obtain ⟨cap, _, hb⟩ := hX.head
    exact (does_len o _ br most Ls.length cap _ hq hb (fun W hW => len_has (kA W hW) o.n) (fun W hW => rlen_has (kN W hW) o.n hn1 hn2) (fun W hW => stripes_has (kA W hW)) h8).mono fun e w' h => fin h
  exact (does_none o (by simpa using h0) (by simpa using h1) (by simpa using h2) (by simpa using h3) (by simpa using h4) (by simpa using h5) (by simpa using h6) (by simpa using h7) (by simpa using h8)).mono fun e w' h => fin h
end
end Go.Proofs.Ytaijfgajcmopfaa.Z4
