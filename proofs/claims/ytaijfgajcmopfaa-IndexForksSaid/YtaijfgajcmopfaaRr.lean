import Derived.Test.YtaijfgajcmopfaaRf
import Derived.OrdersHeld
import Derived.OrdersIn
/- A region that draws its order, in a round of a range over a function: as outside of one, if it defers nothing. -/
set_option linter.unusedVariables false
set_option linter.unusedSimpArgs false
namespace Go.Proofs.Ytaijfgajcmopfaa.Rr
open Go

def noDefer (ops : Array Oper) : Bool := ops.all fun o => match o.op with | .defer _ => false | _ => true

theorem noDefer_spec {ops : Array Oper} (h : noDefer ops = true) {i : Nat} {o : Oper} (ho : ops[i]? = some o) : ∀ c, o.op ≠ .defer c := by
  unfold noDefer at h
  rw [Array.all_eq_true_iff_forall_mem] at h
  have := h o (Array.mem_of_getElem? ho)
  intro c e
  rw [e] at this
  cases this

section
variable {P : Program} {md : Region.Mode} {ops : Array Oper} {Q : Exit → Act → World → Prop} {l n : Nat}

theorem oper_round {o : Oper} {a : Act} {w : World} {K : Act → World → Prop} (hd : ∀ c, o.op ≠ .defer c) (h : o.wp P a w K Q) : o.wpIn (Fence.wide.inRound l) n P a w K Q := by
  unfold Oper.wpIn
  refine ⟨fun f _ => trivial, ?_⟩
  rw [Oper.semAt_eq _ _ _ hd]
  unfold Oper.wp at h
  generalize (execOp a.eval o).run P w = r at *
  cases r with
  | ok x w' =>
    cases x <;> simp only [Oper.upon] at h <;> simp only [Oper.uponIn] <;>
      first
        | exact h
        | (refine ⟨fun hx => (by cases hx), CallsIn.mono (CallsIn.inRound l (callsIn_wide.2 h)) ?_⟩
           intro e w'' he
           cases e <;> exact he)
        | exact ⟨fun hx => (by cases hx), fun c cs _ => let ⟨v, w'', r, s⟩ := h c cs; ⟨v, w'', r, stepsIn_wide.2 s⟩⟩
        | exact h.elim
  | halt x w' => cases x <;> simp only [Oper.upon] at h <;> simp only [Oper.uponIn] <;> exact h

theorem wpAny_round (hn : noDefer ops = true) (ho : ¬ LetsOut Q) : ∀ (fuel : Nat) (listed : Array Bool) (a : Act) (w : World), wpAny P md ops Q fuel listed a w → wpAnyIn (Fence.wide.inRound l) n P md ops Q fuel listed a w
  | 0, _, _, _, h => h
  | fuel + 1, _, a, w, h => ⟨h.1, fun i hi => by
      have := h.2 i hi
      unfold wpOp at this
      unfold wpOpIn
      split
      · rename_i hx
        simp only [hx] at this
        exact wpAny_round hn ho fuel _ a w this
      · rename_i o hx
        simp only [hx] at this
        split
        · rename_i hw
          simp only [hw, if_true] at this
          rcases this with this | this
          · exact Oper.wpIn_mono (fun a' w' h' => wpAny_round hn ho fuel _ a' w' h') (oper_round (noDefer_spec hn hx) this)
          · exact absurd this.2 ho
        · rename_i hw
          simp only [hw] at this
          exact ⟨fun _ _ => trivial, wpAny_round hn ho fuel _ _ w this⟩⟩

/-- **IN A ROUND**: walked with S held, as outside. -/
theorem wpIn_region_round {S : World → Prop} {id : Nat} {a : Act} {w : World} (hm : P.follows .mixedOrders = true) (hn : noDefer ops = true) (ho : ¬ LetsOut Q)
    (h : wpAnyH P .any ops Q S ops.size (Array.replicate ops.size false) a { w with drawn := w.drawn + 1 }) : (Code.region id ops true).wpIn (Fence.wide.inRound l) n P Q a w :=
  wpIn_region_any hm (wpAny_round hn ho _ _ _ _ (wpAny_of_held _ _ _ _ h))
end
end Go.Proofs.Ytaijfgajcmopfaa.Rr
