/- A region that draws its order, in a round of a range over a function: as outside of one. No statement is proved here. -/
import Derived.Test.YtoaoldhajpbenaaEntBp
import Derived.Test.YtoaoldhajpbenaaEntBa
namespace Go.Proofs.Ytoaoldhajpbenaa
open Go.RowKit Go.Shelf

theorem oper_inRound {F : Fence} {n : Nat} {P : Program} {Q : Exit → Act → World → Prop} {o : Oper} {a : Act} {w : World} {K : Act → World → Prop} (l : Nat) (hnd : ∀ c, o.op ≠ .defer c)
    (h : o.wpIn F n P a w K Q) : o.wpIn (F.inRound l) n P a w K Q := by
  unfold Oper.wpIn at *
  refine ⟨h.1, ?_⟩
  have h2 := h.2
  rw [Oper.semAt_eq _ _ _ hnd] at h2 ⊢
  exact h2
def noDefer (o : Oper) : Bool := match o.op with
  | .defer _ => false
  | _ => true
theorem noDefer_of {o : Oper} (h : noDefer o = true) (c : Call) : o.op ≠ .defer c := by
  intro e
  unfold noDefer at h
  rw [e] at h
  cases h
theorem wpAnyIn_inRound {F : Fence} {n : Nat} {P : Program} {md : Region.Mode} {ops : Array Oper} {Q : Exit → Act → World → Prop} (l : Nat) (hnd : ops.toList.all noDefer = true) :
    ∀ (fuel : Nat) (listed : Array Bool) (a : Act) (w : World), wpAnyIn F n P md ops Q fuel listed a w → wpAnyIn (F.inRound l) n P md ops Q fuel listed a w
  | 0, _, _, _, h => h
  | fuel + 1, listed, a, w, h => by
    refine ⟨h.1, fun i hi => ?_⟩
    have h2 := h.2 i hi
    have ih := wpAnyIn_inRound (F := F) (n := n) (P := P) (md := md) (Q := Q) l hnd fuel (listed.setIfInBounds i true)
    unfold wpOpIn at *
    split at h2
    · exact ih _ _ h2
    · rename_i o ho
      have hd := noDefer_of (List.all_eq_true.1 hnd o (by rw [Array.getElem?_eq_some_iff] at ho; obtain ⟨hlt, e⟩ := ho; rw [← e]; simp))
      split at h2
      · rename_i hw; rw [if_pos hw]
        exact oper_inRound l hd (Oper.wpIn_mono ih h2)
      · rename_i hw; rw [if_neg hw]
        exact ⟨h2.1, ih _ _ h2.2⟩
end Go.Proofs.Ytoaoldhajpbenaa
