/- program.own walked. -/
import Derived.Test.YtgacdmkhgllceaaGreatDoorZSlices2
import Derived.Test.YtgacdmkhgllceaaGreatDoorZLin1
namespace Go.Proofs.YtgacdmkhgllceaaGreatDoor
open Go.RowKit Go.Shelf
attribute [local go_sem] Oper.semAt_some

theorem own_any (vp vw : Value) (w : World) (A B : Option Addr) (n c m d : Nat) (hv : vp = .agg #[.slice A n c, .slice B m d]) (hw : ∃ C q r, vw = .slice C q r) :
    Calls Tryz.prog 176 #[vp, vw] w fun e w' => e = .returned (.func (.func 197) #[] #[.pointer (some ⟨w.heap.size, 0, none⟩), .pointer (some ⟨w.heap.size + 1, 0, none⟩)]) ∧
      w' = (w.alloc (.cells #[.slice A n c, .slice B m d] 25)).alloc (.cells #[vw] 23) := by
  subst hv
  obtain ⟨C, q, r, rfl⟩ := hw
  go_enter Tryz.func176, Tryz.ntmps176
  go_wp2
  go_ret
  exact ⟨rfl, rfl⟩

/-- The rows of people, with their places: the first k of them. -/
def ownL (vs : Nat → Value) (owners who : List Int) (k : Nat) : List (Nat × Value) := ((List.range k).filter fun i => hasI who (owners.getD i 0)).map fun i => (i, vs i)
def encO (x : Nat × Value) : Array Value := #[I x.1, x.2]

theorem ownL_yes {vs : Nat → Value} {owners who : List Int} {k : Nat} (h : hasI who (owners.getD k 0) = true) : ownL vs owners who (k + 1) = ownL vs owners who k ++ [(k, vs k)] := by
  unfold ownL; rw [List.range_succ, List.filter_append, List.map_append, List.filter_cons, if_pos h]; rfl
theorem ownL_no {vs : Nat → Value} {owners who : List Int} {k : Nat} (h : hasI who (owners.getD k 0) = false) : ownL vs owners who (k + 1) = ownL vs owners who k := by
  unfold ownL; rw [List.range_succ, List.filter_append, List.map_append, List.filter_cons, if_neg (by rw [h]; decide)]; simp
theorem ownL_prefix (vs : Nat → Value) (owners who : List Int) {k n : Nat} (h : k ≤ n) : ownL vs owners who k <+: ownL vs owners who n := by
  unfold ownL
  refine List.IsPrefix.map _ (List.IsPrefix.filter _ ?_)
  obtain ⟨d, rfl⟩ := Nat.exists_eq_add_of_le h
  rw [List.range_add]; exact List.prefix_append _ _

/-- What the iterator of own reads. -/
structure OwnN (bp bw : Nat) (Ar Ao Aw : Option Addr) (n cr co cw : Nat) (vs : Nat → Value) (owners who : List Int) (W : World) : Prop where
  p0 : W.cell? ⟨bp, 0, none⟩ = some (.slice Ar n cr)
  p1 : W.cell? ⟨bp, 1, none⟩ = some (.slice Ao n co)
  p2 : W.cell? ⟨bw, 0, none⟩ = some (.slice Aw who.length cw)
  row : ∀ i, i < n → ∃ ad, Ar = some ad ∧ W.cell? (ad.add i) = some (vs i)
  own : Ints W (.slice Ao n co) owners
  len : owners.length = n
  who : Ints W (.slice Aw who.length cw) who
theorem OwnN.below {bp bw : Nat} {Ar Ao Aw : Option Addr} {n cr co cw : Nat} {vs : Nat → Value} {owners who : List Int} {W W' : World} (h : OwnN bp bw Ar Ao Aw n cr co cw vs owners who W) (hb : Below W.heap.size W W') : OwnN bp bw Ar Ao Aw n cr co cw vs owners who W' :=
  ⟨keep hb h.p0, keep hb h.p1, keep hb h.p2, fun i hi => by obtain ⟨ad, e, hc⟩ := h.row i hi; exact ⟨ad, e, keep hb hc⟩, h.own.below hb, h.len, h.who.below hb⟩

set_option maxRecDepth 100000 in
set_option maxHeartbeats 2000000 in
theorem own1_iter (bp bw : Nat) (Ar Ao Aw : Option Addr) (n cr co cw : Nat) (vs : Nat → Value) (owners who : List Int) (w0 : World) (hn : n ≤ 1000) (hinc : Incr who) (hsl : ∀ i, i < n → ∃ A m c, vs i = .slice A m c) :
    Iter Tryz.prog 197 #[.pointer (some ⟨bp, 0, none⟩), .pointer (some ⟨bw, 0, none⟩)] encO (fun _ => False) (fun _ => False) (fun _ W => OwnN bp bw Ar Ao Aw n cr co cw vs owners who W) (ownL vs owners who n) w0 := by
  intro nn l J Jx W hW hN hJ hJx hY h0
  refine callsIn_of_wp Tryz.func197 rfl trivial ?_ rfl
  simp only [Tryz.ntmps197, List.size_toArray, List.length_cons, List.length_nil, Nat.reduceAdd, Nat.reduceSub, Array.replicate_succ, Array.replicate_zero, List.push_toArray, List.append_toArray, List.nil_append, List.cons_append]
  have hp0 := (hN _ _ h0).p0
  have HINC := Lib.hid hinc
  have HSL := Lib.hid hsl
  have HY := Lib.hid hY
  have HJ := Lib.hid hJ
  have HNN := Lib.hid hN
  clear hW hinc hsl hY hJ hN
  gi_wp2
  clear hp0
  gi_loopw [4, 5, 6, 7, 11] (fun _ _ _ _ v wr => ∃ j : Nat, v = I j ∧ j ≤ n ∧ Hid (J (ownL vs owners who j) wr)) (fun _ _ _ _ v _ => n - (intOf v).toNat)
  case atStart => exact ⟨0, rfl, Nat.zero_le _, Lib.hid h0⟩
  case round =>
    obtain ⟨j, rfl, hj, hJ1⟩ := hrel
    by_cases hlt : j < n
    · have hnd := HNN.out _ _ hJ1.out
      obtain ⟨ad, rfl, hrow⟩ := hnd.row j hlt
      obtain ⟨A1, m1, c1, e1⟩ := HSL.out j hlt
      have HV := Lib.hid e1
      rw [e1] at hrow
      have hlen := hnd.len
      have how : ∃ od, Ao = some od ∧ wr.cell? (od.add j) = some (I (owners.getD j 0)) := by
        obtain ⟨od, e, how⟩ := hnd.own.at j (by omega)
        exact ⟨od, e, by rw [how]; simp [show j < owners.length by omega]⟩
      obtain ⟨od, rfl, how⟩ := how
      have hp0 := hnd.p0
      have hp1 := hnd.p1
      have hp2 := hnd.p2
      have HWHO := Lib.hid hnd.who
      clear hlen e1 hnd
      generalize hoj : owners.getD j 0 = oj at *
      have HOJ := Lib.hid hoj
      clear hoj
      gi_wp2
      refine Rely.regionBIn _ _ _ _ (by kernel_rfl) [0,1,2,3,4,5,6,7,8,9] [] [10,11] (fun _ _ _ => True) (fun _ => True) (by kernel_rfl) (fun _ _ => trivial) ?_
      (refine Rely.Fx.loadIn ?rlc1 rfl (by kernel_rfl) rfl rfl rfl (Rely.Stab.refl _ _ _) (fun _ hb => ?rlh1) ?rlk1; (case rlh1 => (have hrl := (hb.cell (cell_old hp2)).trans hp2; go_simp; try rfl)); go_simp)
      (refine Rely.Fx.runIn ?rlc2 rfl rfl rfl rfl (fun _ _ => ?rlh2) ?rlk2; (case rlh2 => (go_simp; try rfl)); go_simp)
      (refine Rely.Fx.loadIn ?rlc3 rfl (by kernel_rfl) rfl rfl rfl (Rely.Stab.refl _ _ _) (fun _ hb => ?rlh3) ?rlk3; (case rlh3 => (have hrl := (hb.cell (cell_old hp1)).trans hp1; go_simp; try rfl)); go_simp)
      (refine Rely.Fx.runIn ?rlc4 rfl rfl rfl rfl (fun _ _ => ?rlh4) ?rlk4; (case rlh4 => (go_simp; try rfl)); go_simp)
      (refine Rely.Fx.runIn ?rlc5 rfl rfl rfl rfl (fun _ _ => ?rlh5) ?rlk5; (case rlh5 => (go_simp; try rfl)); go_simp)
      (refine Rely.Fx.loadIn ?rlc6 rfl (by kernel_rfl) rfl rfl rfl (Rely.Stab.refl _ _ _) (fun _ hb => ?rlh6) ?rlk6; (case rlh6 => (have hrl := (hb.cell (cell_old how)).trans how; go_simp; try rfl)); go_simp)
      (refine Rely.Fx.callIn (o := ?rlo7) (.tuple #[I (bsAt who oj), .bool (hasI who oj)]) 23 ?rlho7 ?rlhd7 (by simp) (by kernel_rfl) ?rlh7 ?rlk7; (case rlho7 => (simp only [List.getElem?_toArray, List.getElem?_cons_succ, List.getElem?_cons_zero]; rfl)); (case rlhd7 => rfl))
      · intro w' hb
        gi_wp2_with fail
        refine ⟨trivial, fun h => by simp [Fence.wide] at h, ?_⟩
        refine (callsIn_wide.2 (bsearch_any _ who oj _ (HWHO.out.below hb) HINC.out)).mono ?_
        rintro e w'' ⟨rfl, rfl⟩
        gi_wp2
        exact ⟨_, rfl, rfl, hb, Rely.Stab.none _ _ _ _⟩
      go_simp
      (refine Rely.Fx.runIn ?rlc8 rfl rfl rfl rfl (fun _ _ => ?rlh8) ?rlk8; (case rlh8 => (go_simp; try rfl)); go_simp)
      (refine Rely.Fx.runIn ?rlc9 rfl rfl rfl rfl (fun _ _ => ?rlh9) ?rlk9; (case rlh9 => (go_simp; try rfl)); go_simp)
      (refine Rely.Fx.runIn ?rlc10 rfl rfl rfl rfl (fun _ _ => ?rlh10) ?rlk10; (case rlh10 => (go_simp; try rfl)); go_simp)
      refine Rely.Fx.done ?_
      refine Rely.Lt.done ?_
      intro w' hb _
      have HJ2 := Lib.hid (HJ.out _ _ _ hJ1.out (Same.of_below hb (fun _ h _ => h)))
      clear hb hrow how hp0 hp1 hp2
      (refine Rely.Tl.stepIn (o := ?rlo11) ?rlho11 ?rlk11; (case rlho11 => (simp only [List.getElem?_toArray, List.getElem?_cons_succ, List.getElem?_cons_zero]; rfl)))
      gi_wp2
      refine ⟨rfl, ?_⟩
      (refine Rely.Tl.lastIn (o := ?rlo12) ?rlho12 ?rlk12; (case rlho12 => (simp only [List.getElem?_toArray, List.getElem?_cons_succ, List.getElem?_cons_zero]; rfl)))
      gi_wp2
      refine ⟨rfl, ?_⟩
      cases hh : hasI who oj with
      | false =>
        have HN := Lib.hid (ownL_no (vs := vs) (show hasI who (owners.getD j 0) = false by rw [HOJ.out]; exact hh))
        clear hh
        gi_wp2
        refine ⟨fun f h => by (cases h), ?_⟩
        gi_wp2
        go_roundw
        case rel => exact ⟨j + 1, by go_num, by omega, Lib.hid (by rw [HN.out]; exact HJ2.out)⟩
        case measure => simp [intOf]; omega
      | true =>
        have HN := Lib.hid (ownL_yes (vs := vs) (show hasI who (owners.getD j 0) = true by rw [HOJ.out]; exact hh))
        obtain ⟨fn, tmps, assign, body, hy, hR⟩ := HY.out (ownL vs owners who j) (j, vs j) w' HJ2.out (by rw [← HN.out]; exact ownL_prefix vs owners who (by omega))
        dsimp only [encO] at hy
        rw [HV.out] at hy
        clear hh
        gi_wp2
        refine ⟨fun h => by simp [Fence.wide] at h, hR.mono ?_⟩
        rintro e W' (⟨rfl, hJ', hS⟩ | ⟨rfl, hJx'⟩)
        · have HJ3 := Lib.hid hJ'
          clear hS hJ' hy
          gi_wp2
          go_roundw
          case rel => exact ⟨j + 1, by go_num, by omega, Lib.hid (by rw [HN.out]; exact HJ3.out)⟩
          case measure => simp [intOf]; omega
        · gi_wp2
          refine bodyPost_ret (results_none rfl _ _ _) rfl ?_
          exact ⟨⟨_, rfl⟩, .inr hJx'⟩
    · obtain rfl : j = n := by omega
      gi_wp2
      go_end0
      exact ⟨⟨_, rfl⟩, .inl hJ1.out⟩

end Go.Proofs.YtgacdmkhgllceaaGreatDoor
