/- partial.Make as one contract. -/
import Derived.Test.YtgacdmkhgllceaaGreatDoorZWorkC
namespace Go.Proofs.YtgacdmkhgllceaaGreatDoor
open Go.RowKit Go.Shelf

/-- What Make returns. -/
noncomputable def makeR (ep : Int) (rows : List (List Int)) (owners commits : List Int) (txt : List UInt8) (ps : List Pr) (kp : Int) (ss : List (Int × Int)) (d f : Int) : Int × Int :=
  if begE ep rows owners commits txt.length ps ≠ 0 then (0, begE ep rows owners commits txt.length ps) else
  if idx (isKp kp) ps < 0 ∨ [d, f].any oddQ = true then (0, 1) else makeMain rows owners commits txt ps ss d f (ps.getD (idx (isKp kp) ps).toNat ⟨0, 0, 0, 0⟩)

theorem make_any (ep : Int) (vr vo vc vt vp vs : Value) (rows : List (List Int)) (owners commits : List Int) (txt : List UInt8) (ps : List Pr) (ss : List (Int × Int)) (kp d f : Int) (w : World) (hss : Shares w vs ss) (hr : Rows2 w vr rows) (ho : Ints w vo owners) (hc : Ints w vc commits) (ht : Bytes w vt txt) (hp : Pairs w vp ps) (hg : Glob w) :
    Calls Tryz.prog 20 #[.agg #[I ep, vr, vo, vc], vt, vp, I kp, vs, I d, I f] w fun e w' => e = .returned (.tuple #[I (makeR ep rows owners commits txt ps kp ss d f).1, I (makeR ep rows owners commits txt ps kp ss d f).2]) ∧ Below w.heap.size w w' := by
  by_cases hE : begE ep rows owners commits txt.length ps = 0
  · by_cases hb : idx (isKp kp) ps < 0 ∨ [d, f].any oddQ = true
    · have h : makeR ep rows owners commits txt ps kp ss d f = (0, 1) := by unfold makeR; rw [if_neg (by rw [hE]; decide), if_pos hb]
      rw [h]
      exact make_find ep vr vo vc vt vp vs rows owners commits txt ps ss kp d f w hss hr ho hc ht hp hg hE hb
    · obtain ⟨i, hi, e1, _⟩ := idx_at (p := isKp kp) (xs := ps) (fun h => hb (.inl h))
      have h : makeR ep rows owners commits txt ps kp ss d f = makeMain rows owners commits txt ps ss d f ps[i] := by
        unfold makeR; rw [if_neg (by rw [hE]; decide), if_neg hb, e1, Int.toNat_natCast]
        simp [hi]
      rw [h]
      refine make_main ep vr vo vc vt vp vs rows owners commits txt ps ss kp d f w hss hr ho hc ht hp hg hE i hi e1 ?_
      cases hq : [d, f].any oddQ with
      | false => rfl
      | true => exact absurd (.inr hq) hb
  · have h : makeR ep rows owners commits txt ps kp ss d f = (0, begE ep rows owners commits txt.length ps) := by unfold makeR; rw [if_pos hE]
    rw [h]
    exact make_early ep vr vo vc vt vp vs rows owners commits txt ps ss kp d f w hss hr ho hc ht hp hg hE

end Go.Proofs.YtgacdmkhgllceaaGreatDoor
