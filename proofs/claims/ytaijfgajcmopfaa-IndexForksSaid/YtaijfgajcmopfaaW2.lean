import Derived.Test.YtaijfgajcmopfaaW1
/- Walks of the table: what writes. -/
set_option linter.unusedVariables false
namespace Go.Proofs.Ytaijfgajcmopfaa.W2
open Go.RowKit V Rh T W1

theorem len_nil (w : World) : Calls Try.prog 43 #[.pointer none] w fun e w' => e = .returned (.int .i64 0) ∧ w = w' := by
  go_enter Try.func43, Try.ntmps43
  go_wp2_with (go_at_call 61; refine (made_nil _).mono ?_; rintro e w' ⟨rfl, rfl⟩)
  go_ret
  exact ⟨rfl, rfl⟩
theorem len_any (bt bs bits most n : Nat) (es L : List Ent) (w : World) (hT : Tab w bt bs bits most es n) (hI : TInv bits most es L) :
    Calls Try.prog 43 #[.pointer (some ⟨bt, 0, none⟩)] w fun e w' => e = .returned (.int .i64 n) ∧ w = w' := by
  obtain ⟨C, hC, hC2, c0, c1, c2, c3⟩ := hT.cells
  have hl : 0 < es.length := by rw [hI.len]; have := hI.n_pos; omega
  clear hT hI
  go_enter Try.func43, Try.ntmps43
  go_wp2_with (go_at_call 61; refine (made_any _ _ _ _ _ c0 hl).mono ?_; rintro e w' ⟨rfl, rfl⟩)
  go_ret
  exact ⟨rfl, rfl⟩

theorem full_any (bt bs bits most n : Nat) (es : List Ent) (w : World) (hT : Tab w bt bs bits most es n) (hn : n ≤ 65536) (hN : es.length ≤ 65536) :
    Calls Try.prog 63 #[.pointer (some ⟨bt, 0, none⟩)] w fun e w' => e = .returned (.bool (decide (7 * es.length < 8 * (n + 1)))) ∧ ∃ k, w.drewN k = w' := by
  obtain ⟨C, hC, hC2, c0, c1, c2, c3⟩ := hT.cells
  clear hT
  go_enter Try.func63, Try.ntmps63
  go_wp2
  go_quiet (fail)
  go_wp2
  go_ret
  refine ⟨ret_bool ?_, _, rfl⟩
  simp
  omega

theorem hit_nil (h : Int) (w : World) : Calls Try.prog 47 #[.pointer none, .int .u64 h] w fun e w' => e = .returned (.bool false) ∧ w = w' := by
  go_enter Try.func47, Try.ntmps47
  go_wp2_with (go_at_call 55; refine (find_nil _ _).mono ?_; rintro e w' ⟨rfl, rfl⟩)
  go_ret
  exact ⟨rfl, rfl⟩

def hitE (e : Ent) : Ent := if e.c < 255 then { e with c := e.c + 1 } else e
def hitL (h : Int) (L : List Ent) : List Ent := match lget h L with | some e => lput (hitE e) L | none => L
/-- the blocks of a table -/
def At (bt bs : Nat) : Nat → Prop := fun k => k = bt ∨ k = bs

set_option maxHeartbeats 400000 in
theorem hit_any (bt bs bits most n : Nat) (es L : List Ent) (h : Int) (w : World) (hT : Tab w bt bs bits most es n) (hI : TInv bits most es L) (hh : 0 ≤ h) (hh2 : h < 18446744073709551616) :
    Calls Try.prog 47 #[.pointer (some ⟨bt, 0, none⟩), .int .u64 h] w fun e w' => e = .returned (.bool (lget h L).isSome) ∧ Keep (At bt bs) w w' ∧ ∃ es', Tab w' bt bs bits most es' n ∧ TInv bits most es' (hitL h L) := by
  have H0 := hid hT
  have hf := find_any bt bs bits most n es L h w hT hI hh hh2
  cases hp : posOf es h with
  | none =>
    rw [posI_none hp] at hf
    have hg := hI.pos_none hp
    have HI := hid hI
    have HG := hid hg
    clear hT hI hp hg
    go_enter Try.func47, Try.ntmps47
    go_wp2_with (go_at_call 55; refine hf.mono ?_; rintro e w' ⟨rfl, hk⟩; have hk1 := hid hk; clear hk)
    go_ret
    exact ⟨ret_bool (by rw [HG.out]; rfl), hk1.out.mono (fun _ _ h => h.elim), es, H0.out.mod hk1.out (no _) (no _), by rw [hitL, HG.out]; exact HI.out⟩
  | some p =>
    rw [posI_some hp] at hf
    have hg := hI.pos_some hp
    obtain ⟨hp1, hp2, hp3⟩ := posOf_spec hI.len hp
    have hok := (hI.ok _ (hI.mem hp1 hp2)).1
    have hl := hI.len
    have hN2 := hI.n_le
    rw [← hl] at hp1 hN2
    have hfin : Hid (TInv bits most (es.set p (hitE (gt es p))) (hitL h L)) := by
      rw [hitL, hg]
      have e1 : (hitE (gt es p)).h = h := by unfold hitE; split <;> exact hp3
      refine hI.replace (by rw [e1]; exact hp) ?_ ?_
      · unfold hitE; split <;> exact hp2
      · obtain ⟨o1, o2, o3, o4, o5, o6, o7, o8⟩ := hok
        unfold hitE
        split
        · exact ⟨o1, o2, o3, o4, o5, o6, by show 0 ≤ (gt es p).c + 1; omega, by show (gt es p).c + 1 < 256; omega⟩
        · exact ⟨o1, o2, o3, o4, o5, o6, o7, o8⟩
    have HG := hid hg
    have o7 := hok.2.2.2.2.2.2.1
    have o8 := hok.2.2.2.2.2.2.2
    clear hT hI hp hg hl hp2 hp3 hok
    go_enter Try.func47, Try.ntmps47
    by_cases hc : (gt es p).c < 255
    all_goals
      go_wp2_with (go_at_call 55; refine hf.mono ?_; rintro e w' ⟨rfl, hk⟩; obtain ⟨C, hC, hC2, c0, c1, c2, c3⟩ := (H0.out.mod hk (no _) (no _)).cells; have ht1 := hid (H0.out.mod hk (no _) (no _)); obtain ⟨xs, hS⟩ := (H0.out.mod hk (no _) (no _)).slots; obtain ⟨s0, s1, s2, s3⟩ := slot hS hp1; have hfz := hS.frozen; have hk1 := hid hk; clear hk hS)
      go_ret
    · refine ⟨ret_bool (by rw [HG.out]; rfl), (hk1.out.mono (fun _ _ h => h.elim)).setCell _ _ (fun _ => .inr rfl), _, ht1.out.setC hp1 _, ?_⟩
      have := hfin.out
      rwa [hitE, if_pos hc] at this
    · refine ⟨ret_bool (by rw [HG.out]; rfl), hk1.out.mono (fun _ _ h => h.elim), es, ht1.out, ?_⟩
      have := hfin.out
      rw [hitE, if_neg (by omega)] at this
      rwa [set_gt hp1] at this
end Go.Proofs.Ytaijfgajcmopfaa.W2
