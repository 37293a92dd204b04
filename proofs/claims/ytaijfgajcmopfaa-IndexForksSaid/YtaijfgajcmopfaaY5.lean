import Derived.Test.YtaijfgajcmopfaaY4
/- The document's index: Hit, Move, RemoveIf. -/
set_option linter.unusedVariables false
namespace Go.Proofs.Ytaijfgajcmopfaa.Y5
open Go.RowKit Go.Shelf V Rh T W1 W2 W3 W4 W6 Rf X1 X2 X4 X5 X6 Pl Y1 Y2 Y3 Y4

theorem set_a {es : List Ent} {i : Nat} (hi : i < es.length) (x : Int) : (flat es).set (i * 4 + 1) (.int .u64 x) = flat (es.set i { gt es i with a := x }) := by
  rw [← flat_set hi]
  have h0 := flat_at hi 0 (by omega)
  have h2 := flat_at hi 2 (by omega)
  have h3 := flat_at hi 3 (by omega)
  have hl := flat_length es
  apply List.ext_getElem?
  intro k
  simp only [List.getElem?_set, List.length_set]
  by_cases k0 : i * 4 = k
  · subst k0
    simp [cellsE] at h0
    simp
    split <;> first | omega | (rw [h0])
  · by_cases k2 : i * 4 + 2 = k
    · subst k2
      simp [cellsE] at h2
      simp
      split <;> first | omega | (rw [h2])
    · by_cases k3 : i * 4 + 3 = k
      · subst k3
        simp [cellsE] at h3
        simp
        split <;> first | omega | (rw [h3])
      · simp [k0, k2, k3]

section
variable {w : World} {br ba most : Nat} {vs : List Value} {Ls : List (List Ent)}

set_option maxRecDepth 100000 in
set_option maxHeartbeats 1000000 in
theorem rhit_any (hX : RIdx w br ba vs most Ls) (hG : GoodL most Ls) (h : Int) (hh : 0 ≤ h) (hh2 : h < 18446744073709551616) :
    Calls Try.prog 38 #[ptr br, .int .u64 h] w fun e w' => e = .returned (.bool (xget h Ls).isSome) ∧ RThen w w' (ptr br) most (xhit h Ls) (RFoot br ba vs) := by
  obtain ⟨s, p, n, v, L, S⟩ := Y4.RIdx.setup hX hG h hh hh2
  have hg : xget h Ls = lget h L := by unfold xget; rw [S.list]
  rw [hg]
  have hxh : xhit h Ls = xset h (hitL h L) Ls := by unfold xhit; rw [S.list]
  have hfind := S.find
  have HS := hid S
  cases hl : lget h L with
  | none =>
    have hx : xhit h Ls = Ls := by rw [hxh]; unfold hitL; rw [hl]; have := S.list; subst this; exact xset_self
    rw [hx]
    rw [hl] at hfind
    simp only [Option.isSome_none] at hfind
    clear S hg hxh hl hx hX
    unfold ptr
    go_enter Try.func38, Try.ntmps38
    go_wp2_with (go_at_call 59; refine (hfind _ (Keep.refl _ _)).mono ?_; rintro e w1 ⟨rfl, hk⟩; have HK := hid hk; clear hk)
    go_ret
    exact ⟨rfl, HS.out.stays _ HK.out⟩
  | some o =>
    rw [hl] at hfind
    obtain ⟨hpl, ho⟩ := S.found o hl
    have hset : hitL h L = L.set p (hitE o) := by rw [hitL_set S.sorted hl, ← S.pos]
    have HX : Hid (xhit h Ls = xset h (L.set p (hitE o)) Ls) := by show _ = _; rw [hxh, hset]
    have hm := (lget_some hl).1
    obtain ⟨_, _, _, _, _, _, ok1, ok2⟩ := (S.ok o hm).1
    have i0 : (0 : Int) ≤ (s : Nat) := by omega
    have i1 : (s : Int) < n := by have := S.hs; omega
    have i2 : (0 : Int) ≤ (p : Nat) := by omega
    have i3 : (p : Int) < L.length := by omega
    have HO := hid ho
    simp only [Option.isSome_some] at hfind
    clear S hg hxh hl hset hm hX ho
    by_cases hc : o.c < 255
    · have hcd : decide (o.c < 255) = true := by simpa using hc
      have HE : Hid (hitE o = { o with c := o.c + 1 }) := by show _ = _; unfold hitE; rw [if_pos hc]
      have HM : Hid ((o.c + 1) % 256 = o.c + 1) := by show _ = _; omega
      clear hc
      unfold ptr
      go_enter Try.func38, Try.ntmps38
      go_wp2_with (go_at_call 59; refine (hfind _ (Keep.refl _ _)).mono ?_; rintro e w1 ⟨rfl, hk⟩; have HK := hid hk; obtain ⟨cap, y0, y1, y2, y3, y4, y5, y6, y7, y9⟩ := HS.out.opn _ hk; obtain ⟨g, rcap, rest, rfl, y10, y11, hbg, y12, y13, y14, y15⟩ := y9.resolve_left (fun e => by rw [e.2] at hpl; exact absurd hpl (Nat.not_lt_zero _)); obtain ⟨s0, s1, s2, s3⟩ := slot hbg hpl; rw [HO.out] at s0 s1 s2 s3; have hfr := hbg.frozen; have hgl := hbg.lt; have HBG := hid hbg; clear hk hbg y9 y11)
      go_ret
      refine ⟨rfl, ?_⟩
      rw [HX.out]
      refine HS.out.write _ _ g rcap rest _ HK.out rfl HBG.out ((Keep.refl _ _).setCell _ _ (fun _ => rfl)) ?_ (by simp)
      have := HBG.out.set (p * 4 + 3) (.int .u8 (o.c + 1))
      rw [List.set_append_left _ _ (by rw [flat_length]; omega), set_c hpl] at this
      rw [HE.out]
      rw [HO.out] at this
      rw [HM.out]
      exact this
    · have hcd : decide (o.c < 255) = false := by simpa using hc
      have HE : Hid (hitE o = o) := by show _ = _; unfold hitE; rw [if_neg hc]
      clear hc
      unfold ptr
      go_enter Try.func38, Try.ntmps38
      go_wp2_with (go_at_call 59; refine (hfind _ (Keep.refl _ _)).mono ?_; rintro e w1 ⟨rfl, hk⟩; have HK := hid hk; obtain ⟨cap, y0, y1, y2, y3, y4, y5, y6, y7, y9⟩ := HS.out.opn _ hk; obtain ⟨g, rcap, rest, rfl, y10, y11, hbg, y12, y13, y14, y15⟩ := y9.resolve_left (fun e => by rw [e.2] at hpl; exact absurd hpl (Nat.not_lt_zero _)); obtain ⟨s0, s1, s2, s3⟩ := slot hbg hpl; rw [HO.out] at s0 s1 s2 s3; have hfr := hbg.frozen; have hgl := hbg.lt; have HBG := hid hbg; clear hk hbg y9 y11)
      go_ret
      refine ⟨rfl, ?_⟩
      rw [HX.out, HE.out]
      refine HS.out.write _ _ g rcap rest _ HK.out rfl HBG.out (Keep.refl _ _) ?_ (by simp)
      have : L.set p o = L := by rw [← HO.out]; unfold gt; simp [hpl]
      rw [this]
      exact HBG.out

set_option maxRecDepth 100000 in
set_option maxHeartbeats 1000000 in
theorem rmove_any (hX : RIdx w br ba vs most Ls) (hG : GoodL most Ls) (h fr to : Int) (hh : 0 ≤ h) (hh2 : h < 18446744073709551616) :
    Calls Try.prog 37 #[ptr br, .int .u64 h, .int .u64 fr, .int .u64 to] w fun e w' => e = .returned (.bool (xmove most h fr to Ls).1) ∧ RThen w w' (ptr br) most (xmove most h fr to Ls).2 (RFoot br ba vs) := by
  obtain ⟨s, p, n, v, L, S⟩ := Y4.RIdx.setup hX hG h hh hh2
  have hg : xget h Ls = lget h L := by unfold xget; rw [S.list]
  have hfind := S.find
  have HS := hid S
  cases hl : lget h L with
  | none =>
    have hx : xmove most h fr to Ls = (false, Ls) := by unfold xmove; rw [hg, hl]
    rw [hx]
    rw [hl] at hfind
    simp only [Option.isSome_none] at hfind
    clear S hg hl hx hX
    unfold ptr
    go_enter Try.func37, Try.ntmps37
    go_wp2_with (go_at_call 59; refine (hfind _ (Keep.refl _ _)).mono ?_; rintro e w1 ⟨rfl, hk⟩; have HK := hid hk; clear hk)
    go_ret
    exact ⟨rfl, HS.out.stays _ HK.out⟩
  | some o =>
    rw [hl] at hfind
    obtain ⟨hpl, ho⟩ := S.found o hl
    have hm := lget_some hl
    have hxm : xmove most h fr to Ls = if o.a = fr ∧ to ≠ 0 then (true, xset h (putR most { o with a := to } L).2.2 Ls) else (false, Ls) := by unfold xmove; rw [hg, hl, S.list]
    have hput : (putR most { o with a := to } L).2.2 = L.set p { o with a := to } := by
      have e : lget ({ o with a := to } : Ent).h L = some o := by rw [show ({ o with a := to } : Ent).h = h from hm.2]; exact hl
      unfold putR
      rw [e]
      have := (lput_set (e := { o with a := to }) S.sorted e).2.2
      rw [this, show ({ o with a := to } : Ent).h = h from hm.2, ← S.pos]
    have i0 : (0 : Int) ≤ (s : Nat) := by omega
    have i1 : (s : Int) < n := by have := S.hs; omega
    have i2 : (0 : Int) ≤ (p : Nat) := by omega
    have i3 : (p : Int) < L.length := by omega
    have HO := hid ho
    simp only [Option.isSome_some] at hfind
    rw [hput] at hxm
    clear S hg hl hm hX ho hput
    by_cases hf : o.a = fr
    · have hfd : (o.a != fr) = false := by simp [hf]
      by_cases ht : to = 0
      · have htd : (to == 0) = true := by simp [ht]
        rw [if_neg (by simp [ht])] at hxm
        rw [hxm]
        clear hxm hf ht
        unfold ptr
        go_enter Try.func37, Try.ntmps37
        go_wp2_with (go_at_call 59; refine (hfind _ (Keep.refl _ _)).mono ?_; rintro e w1 ⟨rfl, hk⟩; have HK := hid hk; obtain ⟨cap, y0, y1, y2, y3, y4, y5, y6, y7, y9⟩ := HS.out.opn _ hk; obtain ⟨g, rcap, rest, rfl, y10, y11, hbg, y12, y13, y14, y15⟩ := y9.resolve_left (fun e => by rw [e.2] at hpl; exact absurd hpl (Nat.not_lt_zero _)); obtain ⟨s0, s1, s2, s3⟩ := slot hbg hpl; rw [HO.out] at s0 s1 s2 s3; have hfr := hbg.frozen; have hgl := hbg.lt; have HBG := hid hbg; clear hk hbg y9 y11)
        go_ret
        exact ⟨rfl, HS.out.stays _ HK.out⟩
      · have htd : (to == 0) = false := by simpa using ht
        rw [if_pos ⟨hf, ht⟩] at hxm
        have HXM := hid hxm
        clear hxm hf ht
        unfold ptr
        go_enter Try.func37, Try.ntmps37
        go_wp2_with (go_at_call 59; refine (hfind _ (Keep.refl _ _)).mono ?_; rintro e w1 ⟨rfl, hk⟩; have HK := hid hk; obtain ⟨cap, y0, y1, y2, y3, y4, y5, y6, y7, y9⟩ := HS.out.opn _ hk; obtain ⟨g, rcap, rest, rfl, y10, y11, hbg, y12, y13, y14, y15⟩ := y9.resolve_left (fun e => by rw [e.2] at hpl; exact absurd hpl (Nat.not_lt_zero _)); obtain ⟨s0, s1, s2, s3⟩ := slot hbg hpl; rw [HO.out] at s0 s1 s2 s3; have hfr := hbg.frozen; have hgl := hbg.lt; have HBG := hid hbg; clear hk hbg y9 y11)
        go_ret
        refine ⟨by rw [HXM.out]; rfl, ?_⟩
        rw [HXM.out]
        refine HS.out.write _ _ g rcap rest _ HK.out rfl HBG.out ((Keep.refl _ _).setCell _ _ (fun _ => rfl)) ?_ (by simp)
        have := HBG.out.set (p * 4 + 1) (.int .u64 to)
        rw [List.set_append_left _ _ (by rw [flat_length]; omega), set_a hpl] at this
        rw [HO.out] at this
        exact this
    · have hfd : (o.a != fr) = true := by simp [hf]
      rw [if_neg (fun e => hf e.1)] at hxm
      rw [hxm]
      clear hxm hf
      unfold ptr
      go_enter Try.func37, Try.ntmps37
      go_wp2_with (go_at_call 59; refine (hfind _ (Keep.refl _ _)).mono ?_; rintro e w1 ⟨rfl, hk⟩; have HK := hid hk; obtain ⟨cap, y0, y1, y2, y3, y4, y5, y6, y7, y9⟩ := HS.out.opn _ hk; obtain ⟨g, rcap, rest, rfl, y10, y11, hbg, y12, y13, y14, y15⟩ := y9.resolve_left (fun e => by rw [e.2] at hpl; exact absurd hpl (Nat.not_lt_zero _)); obtain ⟨s0, s1, s2, s3⟩ := slot hbg hpl; rw [HO.out] at s0 s1 s2 s3; have hfr := hbg.frozen; have hgl := hbg.lt; have HBG := hid hbg; clear hk hbg y9 y11)
      go_ret
      exact ⟨rfl, HS.out.stays _ HK.out⟩
end
end Go.Proofs.Ytaijfgajcmopfaa.Y5
