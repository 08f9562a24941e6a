/- partial.Make walked: what is refused ahead of its loop. -/
import Derived.Test.YtgacdmkhgllceaaGreatDoorZWorkA
import Derived.Test.YtgacdmkhgllceaaGreatDoorZSlices2
namespace Go.Proofs.YtgacdmkhgllceaaGreatDoor
open Go.RowKit Go.Shelf

/-- The world behind Make's boxes. -/
abbrev mkW (w : World) (ep : Int) (vr vo vc vs : Value) : World :=
  (((w.alloc (.cells #[I ep, vr, vo, vc] 27)).alloc (.cells #[vs] 36)).alloc (.cells #[I 0] 3)).alloc (.cells #[I 0] 32)
structure MkC (w : World) (ep : Int) (vr vo vc vs : Value) (W : World) : Prop where
  bel : Below w.heap.size w W
  k0 : W.cell? ⟨w.heap.size, 0, none⟩ = some (I ep)
  k1 : W.cell? ⟨w.heap.size, 1, none⟩ = some vr
  k2 : W.cell? ⟨w.heap.size, 2, none⟩ = some vo
  k3 : W.cell? ⟨w.heap.size, 3, none⟩ = some vc
  s : W.cell? ⟨w.heap.size + 1, 0, none⟩ = some vs
  z : W.heap[w.heap.size + 1 + 1]? = some (.cells #[I 0] 3 (0, 0))
  e : W.heap[w.heap.size + 1 + 1 + 1]? = some (.cells #[I 0] 32 (0, 0))
  siz : W.heap.size = w.heap.size + 4
theorem mk_cells (w : World) (ep : Int) (vr vo vc vs : Value) : MkC w ep vr vo vc vs (mkW w ep vr vo vc vs) := by
  unfold mkW
  generalize hA : w.alloc (.cells #[I ep, vr, vo, vc] 27) = A
  have zA : A.heap.size = w.heap.size + 1 := by rw [← hA]; simp
  generalize hB : A.alloc (.cells #[vs] 36) = B
  have zB : B.heap.size = w.heap.size + 2 := by rw [← hB]; simp; omega
  generalize hC : B.alloc (.cells #[I 0] 3) = C
  have zC : C.heap.size = w.heap.size + 3 := by rw [← hC]; simp; omega
  have cA : ∀ i v, (#[I ep, vr, vo, vc] : Array Value)[i]? = some v → A.cell? ⟨w.heap.size, i, none⟩ = some v := fun i v h => by rw [← hA, World.cell?_alloc_new]; exact h
  have kA : ∀ i v, (#[I ep, vr, vo, vc] : Array Value)[i]? = some v → (C.alloc (.cells #[I 0] 32)).cell? ⟨w.heap.size, i, none⟩ = some v := fun i v h => keepA _ (by rw [← hC]; exact keepA _ (by rw [← hB]; exact keepA _ (cA i v h)))
  refine ⟨?_, kA 0 _ rfl, kA 1 _ rfl, kA 2 _ rfl, kA 3 _ rfl, ?_, ?_, ?_, by simp; omega⟩
  · refine Below.alloc ?_ (by omega) _
    rw [← hC]; refine Below.alloc ?_ (by omega) _
    rw [← hB]; refine Below.alloc ?_ (by omega) _
    rw [← hA]; exact (Below.refl _ _).alloc (Nat.le_refl _) _
  · refine keepA _ ?_
    rw [← hC]; refine keepA _ ?_
    rw [← hB]; exact (new_cell A vs _ _ (by omega)).1
  · refine (heap_alloc_old C _ (by omega)).trans ?_
    rw [← hC]
    have := heap_alloc_new B (.cells #[I 0] 3)
    rwa [zB] at this
  · have := heap_alloc_new C (.cells #[I 0] 32)
    rwa [zC] at this
theorem Shares.shape {w : World} {v : Value} {xs : List (Int × Int)} (h : Shares w v xs) : ∃ A c, v = .slice A xs.length c ∧ xs.length ≤ 140737488355328 := by
  obtain ⟨A', c', h1, h2, h3, h4⟩ := h
  exact ⟨A', c', h1, h3⟩
theorem Shares.at {w : World} {A : Option Addr} {n c : Nat} {xs : List (Int × Int)} (h : Shares w (.slice A n c) xs) (i : Nat) (hi : i < xs.length) : ∃ ad, A = some ad ∧ ShareE w (ad.add (i * 2)) xs[i] := by
  obtain ⟨A', c', h1, h2, h3, h4⟩ := h
  injection h1 with h1 h5 h6
  obtain ⟨ad, e1, e2⟩ := h4 i hi
  exact ⟨ad, h1.trans e1, e2⟩
/-- Two results that lie in cells. -/
theorem results_cc {fn : Func} {t s : Tmp} (h : fn.results = #[.cell t 3, .cell s 32]) (tmps : Array Value) (W : World) (a b : Addr) (z e : Value) (hp : tmps.getD t undef = .pointer (some a)) (hq : tmps.getD s undef = .pointer (some b))
    (hz : W.cell? a = some z) (he : W.cell? b = some e) : (results fn tmps).run Tryz.prog W = .ok (.tuple #[z, e]) W := by
  have hp' : tmps[t]?.getD undef = .pointer (some a) := by simpa using hp
  have hq' : tmps[s]?.getD undef = .pointer (some b) := by simpa using hq
  simp [results, h, hp', hq', asAddr, go_sem, hz, he]

/-- A row of a block of one cell. -/
theorem one_cell {W : World} {g : Nat} {v : Value} {t : TypeId} (h : W.heap[g]? = some (.cells #[v] t (0, 0))) : W.cell? ⟨g, 0, none⟩ = some v ∧ W.frozen? ⟨g, 0, none⟩ = false :=
  ⟨by rw [cell_of_row W g 0 _ _ (0, 0) h]; rfl, by unfold World.frozen?; rw [h]; rfl⟩

set_option maxRecDepth 100000 in
set_option maxHeartbeats 2000000 in
theorem make_early (ep : Int) (vr vo vc vt vp vs : Value) (rows : List (List Int)) (owners commits : List Int) (txt : List UInt8) (ps : List Pr) (ss : List (Int × Int)) (kp d f : Int) (w : World) (hss : Shares w vs ss) (hr : Rows2 w vr rows) (ho : Ints w vo owners) (hc : Ints w vc commits) (ht : Bytes w vt txt) (hp : Pairs w vp ps) (hg : Glob w)
    (hE : begE ep rows owners commits txt.length ps ≠ 0) :
    Calls Tryz.prog 20 #[.agg #[I ep, vr, vo, vc], vt, vp, I kp, vs, I d, I f] w fun e w' => e = .returned (.tuple #[I 0, I (begE ep rows owners commits txt.length ps)]) ∧ Below w.heap.size w w' := by
  obtain ⟨Ap, cp, rfl, hmp⟩ := hp.shape
  obtain ⟨As, cs, rfl, _⟩ := hss.shape
  clear hss
  have hC := mk_cells w ep vr vo vc (.slice As ss.length cs)
  obtain ⟨W, hW⟩ : ∃ W, mkW w ep vr vo vc (.slice As ss.length cs) = W := ⟨_, rfl⟩
  rw [hW] at hC
  unfold mkW at hW
  have b0 := hC.k0
  have b1 := hC.k1
  have b2 := hC.k2
  have b3 := hC.k3
  have HC := Lib.hid hC
  have HE := Lib.hid hE
  have hE2 : (begE ep rows owners commits txt.length ps != 0) = true := bne_iff_ne.2 hE
  have HR := Lib.hid (hr.below hC.bel)
  have HO := Lib.hid (ho.below hC.bel)
  have HK := Lib.hid (hc.below hC.bel)
  have HT := Lib.hid (ht.below hC.bel)
  have HP := Lib.hid (hp.below hC.bel)
  have HG := Lib.hid (hg.below hC.bel)
  clear hC hE hr ho hc ht hp hg hmp
  go_enter Tryz.func20, Tryz.ntmps20
  go_wp2_with fail
  refine (begin_bad ep vr vo vc vt _ rows owners commits txt ps W HR.out HO.out HK.out HT.out HP.out HG.out HE.out).mono ?_
  rintro e w2 ⟨rfl, hb2⟩
  have HB2 := Lib.hid (HC.out.bel.trans (hb2.mono HC.out.bel.size))
  have hz := (one_cell ((hb2.block _ (by have := HC.out.siz; omega)).trans HC.out.z))
  have he := (one_cell ((hb2.block _ (by have := HC.out.siz; omega)).trans HC.out.e))
  have hs2 : w.heap.size + 4 ≤ w2.heap.size := by have := HC.out.siz; have := hb2.size; omega
  obtain ⟨wA, hwA⟩ : ∃ wA, w2.alloc (.cells #[.pointer none] 90) = wA := ⟨_, rfl⟩
  have hz1 := old_cell (.cells #[.pointer none] 90) hz
  have he1 := old_cell (.cells #[.pointer none] 90) he
  have HBA := Lib.hid (HB2.out.alloc HB2.out.size (.cells #[.pointer none] 90))
  have hn1 := new_cell w2 (.pointer none) 90 w2.heap.size rfl
  rw [hwA] at hz1 he1 HBA hn1
  obtain ⟨n1, n2⟩ := hn1
  have n3 := setCell_id n1
  obtain ⟨z1, z2⟩ := hz1
  obtain ⟨e1, e2⟩ := he1
  obtain ⟨er, her⟩ : ∃ er, begE ep rows owners commits txt.length ps = er := ⟨_, rfl⟩
  rw [her] at hE2 ⊢
  have HER := Lib.hid her
  clear hb2 b0 b1 b2 b3 hW hz he her
  obtain ⟨wB, hwB⟩ : ∃ wB, wA.setCell ⟨w.heap.size + 1 + 1 + 1, 0, none⟩ (I er) = wB := ⟨_, rfl⟩
  have z3 : wB.cell? ⟨w.heap.size + 1 + 1, 0, none⟩ = some (I 0) := by rw [← hwB]; exact set_far (by dsimp only; omega) z1
  have z4 : wB.frozen? ⟨w.heap.size + 1 + 1, 0, none⟩ = false := by rw [← hwB]; exact set_frozen z2
  have e3 : wB.cell? ⟨w.heap.size + 1 + 1 + 1, 0, none⟩ = some (I er) := by rw [← hwB]; exact set_same e1
  have e4 : wB.frozen? ⟨w.heap.size + 1 + 1 + 1, 0, none⟩ = false := by rw [← hwB]; exact set_frozen e2
  have HBB : Hid (Below w.heap.size w wB) := Lib.hid (by rw [← hwB]; exact HBA.out.setCell (by dsimp only; omega) _)
  go_upto_region 3 with (fail)
  clear hwA hwB z1 z2 e1 e2 n1 n2 n3
  refine Rely.regionB _ _ (by kernel_rfl) [0] [] [1,2] (fun _ _ _ => True) (fun w' => w'.cell? ⟨w.heap.size + 1 + 1 + 1, 0, none⟩ = some (I er)) (by kernel_rfl) (fun w' hb => (hb.cell (cell_old e3)).trans e3) ?_
  (refine Rely.Fx.run ?rlc1 rfl rfl (fun _ hC => ?rlh1) ?rlk1; (case rlh1 => (have hrl := (hC : World.cell? _ _ = _); go_simp; try rfl)); go_simp)
  refine Rely.Fx.done ?_
  refine Rely.Lt.done ?_
  intro w' hb _
  have HB' : Hid (Below w.heap.size w w') := Lib.hid (HBB.out.trans (hb.mono HBB.out.size))
  have y3 := keep hb z3
  have y4 := (hb.frozen (p := ⟨w.heap.size + 1 + 1, 0, none⟩) (cell_old z3)).trans z4
  have x3 := keep hb e3
  have x4 := (hb.frozen (p := ⟨w.heap.size + 1 + 1 + 1, 0, none⟩) (cell_old e3)).trans e4
  clear hb z3 z4 e3 e4
  have t3 : (w'.setCell ⟨w.heap.size + 1 + 1, 0, none⟩ (I 0)).cell? ⟨w.heap.size + 1 + 1 + 1, 0, none⟩ = some (I er) := set_far (by dsimp only; omega) x3
  have t4 : (w'.setCell ⟨w.heap.size + 1 + 1, 0, none⟩ (I 0)).frozen? ⟨w.heap.size + 1 + 1 + 1, 0, none⟩ = false := set_frozen x4
  (refine Rely.Tl.step (o := ?rlo2) ?rlho2 ?rlk2; (case rlho2 => (simp only [List.getElem?_toArray, List.getElem?_cons_succ, List.getElem?_cons_zero]; rfl)))
  go_wp2
  refine ⟨rfl, t3, ?_⟩
  (refine Rely.Tl.last (o := ?rlo3) ?rlho3 ?rlk3; (case rlho3 => (simp only [List.getElem?_toArray, List.getElem?_cons_succ, List.getElem?_cons_zero]; rfl)))
  go_wp2
  refine ⟨rfl, ?_⟩
  go_wp2
  refine bodyPost_ret (results_cc rfl _ _ ⟨w.heap.size + 1 + 1, 0, none⟩ ⟨w.heap.size + 1 + 1 + 1, 0, none⟩ (I 0) (I er) rfl rfl (set_far (by dsimp only; omega) (set_same y3)) (set_same t3)) rfl ?_
  exact ⟨by rw [HER.out], (HB'.out.setCell (by dsimp only; omega) _).setCell (by dsimp only; omega) _⟩

/-- A row of two ints that a call has laid for its variadic parameter. -/
theorem two_ints (W : World) (a b : Int) : Ints (W.alloc (.cells #[I a, I b] 3)) (.slice (some ⟨W.heap.size, 0, none⟩) 2 2) [a, b] :=
  Ints.new W [a, b] _ 2 3 #[I a, I b] rfl rfl rfl (show 2 ≤ 140737488355328 by decide)

set_option maxRecDepth 100000 in
set_option maxHeartbeats 2000000 in
theorem make_find (ep : Int) (vr vo vc vt vp vs : Value) (rows : List (List Int)) (owners commits : List Int) (txt : List UInt8) (ps : List Pr) (ss : List (Int × Int)) (kp d f : Int) (w : World) (hss : Shares w vs ss) (hr : Rows2 w vr rows) (ho : Ints w vo owners) (hc : Ints w vc commits) (ht : Bytes w vt txt) (hp : Pairs w vp ps) (hg : Glob w)
    (hE : begE ep rows owners commits txt.length ps = 0) (hbad : idx (isKp kp) ps < 0 ∨ [d, f].any oddQ = true) :
    Calls Tryz.prog 20 #[.agg #[I ep, vr, vo, vc], vt, vp, I kp, vs, I d, I f] w fun e w' => e = .returned (.tuple #[I 0, I 1]) ∧ Below w.heap.size w w' := by
  obtain ⟨Ap, cp, rfl, hmp⟩ := hp.shape
  obtain ⟨As, cs, rfl, _⟩ := hss.shape
  clear hss
  have hC := mk_cells w ep vr vo vc (.slice As ss.length cs)
  obtain ⟨W, hW⟩ : ∃ W, mkW w ep vr vo vc (.slice As ss.length cs) = W := ⟨_, rfl⟩
  rw [hW] at hC
  unfold mkW at hW
  have b0 := hC.k0
  have b1 := hC.k1
  have b2 := hC.k2
  have b3 := hC.k3
  have HC := Lib.hid hC
  have HE := Lib.hid hE
  have HBAD := Lib.hid hbad
  have HR := Lib.hid (hr.below hC.bel)
  have HO := Lib.hid (ho.below hC.bel)
  have HK := Lib.hid (hc.below hC.bel)
  have HT := Lib.hid (ht.below hC.bel)
  have HP := Lib.hid (hp.below hC.bel)
  have HG := Lib.hid (hg.below hC.bel)
  clear hC hE hr ho hc ht hp hg hmp hbad
  go_enter Tryz.func20, Tryz.ntmps20
  go_wp2_with fail
  refine (begin_good ep vr vo vc vt _ rows owners commits txt ps W HR.out HO.out HK.out HT.out HP.out HG.out HE.out).mono ?_
  rintro e w2 ⟨g, vy, vl, rfl, hbg, hb2⟩
  have HBG := Lib.hid hbg
  have HB2 := Lib.hid (HC.out.bel.trans (hb2.mono HC.out.bel.size))
  have HB2W := Lib.hid hb2
  have hz := (one_cell ((hb2.block _ (by have := HC.out.siz; omega)).trans HC.out.z))
  have he := (one_cell ((hb2.block _ (by have := HC.out.siz; omega)).trans HC.out.e))
  have hs2 : w.heap.size + 4 ≤ w2.heap.size := by have := HC.out.siz; have := hb2.size; omega
  obtain ⟨wA, hwA⟩ : ∃ wA, w2.alloc (.cells #[.pointer (some ⟨g, 0, none⟩)] 90) = wA := ⟨_, rfl⟩
  have hz1 := old_cell (.cells #[.pointer (some ⟨g, 0, none⟩)] 90) hz
  have he1 := old_cell (.cells #[.pointer (some ⟨g, 0, none⟩)] 90) he
  have HBA := Lib.hid ((Below.refl w2.heap.size w2).alloc (Nat.le_refl _) (.cells #[.pointer (some ⟨g, 0, none⟩)] 90))
  have hn1 := new_cell w2 (.pointer (some ⟨g, 0, none⟩)) 90 w2.heap.size rfl
  rw [hwA] at hz1 he1 HBA hn1
  obtain ⟨z1, z2⟩ := hz1
  obtain ⟨e1, e2⟩ := he1
  obtain ⟨n1, n2⟩ := hn1
  have i3 := setCell_id e1
  have h5 : wA.cell? ⟨g, 5, none⟩ = some (.slice Ap ps.length cp) := by rw [cell_of_row _ g 5 _ _ (0, 0) (HBG.out.wb.below HBA.out)]; rfl
  have HPA := Lib.hid ((HP.out.below HB2W.out).below HBA.out)
  have HSA : Hid (w2.heap.size + 1 ≤ wA.heap.size) := Lib.hid (by rw [← hwA]; simp)
  clear hb2 b0 b1 b2 b3 hW hz he hbg
  have HBN := Lib.hid ((Below.refl wA.heap.size wA).alloc (Nat.le_refl _) (.cells #[I d, I f] 3))
  go_wp2_with fail
  refine (find_any g kp _ _ ps [d, f] _ (keepA _ h5) (HPA.out.below HBN.out) (two_ints _ _ _)).mono ?_
  rintro e w3 ⟨hf, hb3⟩
  rcases hf with ⟨_, rfl⟩ | ⟨i, hi, hix, hoq, rfl⟩
  · have HB3 : Hid (Below wA.heap.size wA w3) := Lib.hid (HBN.out.trans (hb3.mono HBN.out.size))
    have HB0 : Hid (Below w.heap.size w w3) := Lib.hid (HB2.out.trans ((HBA.out.trans (HB3.out.mono HBA.out.size)).mono HB2.out.size))
    replace z1 := keep HB3.out z1
    replace e1 := keep HB3.out e1
    replace z2 := (HB3.out.frozen (p := ⟨w.heap.size + 1 + 1, 0, none⟩) (by have := HSA.out; dsimp only; omega)).trans z2
    replace e2 := (HB3.out.frozen (p := ⟨w.heap.size + 1 + 1 + 1, 0, none⟩) (by have := HSA.out; dsimp only; omega)).trans e2
    clear hb3 h5 i3 n1 n2 hwA
    have hz3 : w.heap.size + 4 ≤ w3.heap.size := by have := HSA.out; have := HB3.out.size; omega
    obtain ⟨wC, hwC⟩ : ∃ wC, w3.alloc (.cells #[I 0, I 0, I 0, I 0] 85) = wC := ⟨_, rfl⟩
    have hz1 := old_cell (.cells #[I 0, I 0, I 0, I 0] 85) (And.intro z1 z2)
    have he1 := old_cell (.cells #[I 0, I 0, I 0, I 0] 85) (And.intro e1 e2)
    have HBC := Lib.hid (HB0.out.alloc HB0.out.size (.cells #[I 0, I 0, I 0, I 0] 85))
    have hrow := heap_alloc_new w3 (.cells #[I 0, I 0, I 0, I 0] 85)
    rw [hwC] at hz1 he1 HBC hrow
    have c0 : wC.cell? ⟨w3.heap.size, 0, none⟩ = some (I 0) := by rw [cell_of_row wC _ 0 _ _ (0, 0) hrow]; rfl
    have c1 : wC.cell? ⟨w3.heap.size, 1, none⟩ = some (I 0) := by rw [cell_of_row wC _ 1 _ _ (0, 0) hrow]; rfl
    have c2 : wC.cell? ⟨w3.heap.size, 2, none⟩ = some (I 0) := by rw [cell_of_row wC _ 2 _ _ (0, 0) hrow]; rfl
    have c3 : wC.cell? ⟨w3.heap.size, 3, none⟩ = some (I 0) := by rw [cell_of_row wC _ 3 _ _ (0, 0) hrow]; rfl
    have f0 : ∀ i, wC.frozen? ⟨w3.heap.size, i, none⟩ = false := fun i => by unfold World.frozen?; rw [hrow]; rfl
    have f00 := f0 0
    have f01 := f0 1
    have f02 := f0 2
    have f03 := f0 3
    have i0 := setCell_id c0
    have i1 := setCell_id c1
    have i2 := setCell_id c2
    have i3 := setCell_id c3
    obtain ⟨y1, y2⟩ := hz1
    obtain ⟨x1, x2⟩ := he1
    clear f0 z1 z2 e1 e2 hrow
    obtain ⟨wB, hwB⟩ : ∃ wB, wC.setCell ⟨w.heap.size + 1 + 1 + 1, 0, none⟩ (I 1) = wB := ⟨_, rfl⟩
    have z3 : wB.cell? ⟨w.heap.size + 1 + 1, 0, none⟩ = some (I 0) := by rw [← hwB]; exact set_far (by dsimp only; omega) y1
    have z4 : wB.frozen? ⟨w.heap.size + 1 + 1, 0, none⟩ = false := by rw [← hwB]; exact set_frozen y2
    have e3 : wB.cell? ⟨w.heap.size + 1 + 1 + 1, 0, none⟩ = some (I 1) := by rw [← hwB]; exact set_same x1
    have e4 : wB.frozen? ⟨w.heap.size + 1 + 1 + 1, 0, none⟩ = false := by rw [← hwB]; exact set_frozen x2
    have HBB : Hid (Below w.heap.size w wB) := Lib.hid (by rw [← hwB]; exact HBC.out.setCell (by dsimp only; omega) _)
    go_upto_region 6 with (fail)
    clear hwC hwB y1 y2 x1 x2 c0 c1 c2 c3 f00 f01 f02 f03 i0 i1 i2 i3
    refine Rely.regionB _ _ (by kernel_rfl) [0] [] [1,2] (fun _ _ _ => True) (fun w' => w'.cell? ⟨w.heap.size + 1 + 1 + 1, 0, none⟩ = some (I 1)) (by kernel_rfl) (fun w' hb => (hb.cell (cell_old e3)).trans e3) ?_
    (refine Rely.Fx.run ?rlc4 rfl rfl (fun _ hC => ?rlh4) ?rlk4; (case rlh4 => (have hrl := (hC : World.cell? _ _ = _); go_simp; try rfl)); go_simp)
    refine Rely.Fx.done ?_
    refine Rely.Lt.done ?_
    intro w' hb _
    have HB' : Hid (Below w.heap.size w w') := Lib.hid (HBB.out.trans (hb.mono HBB.out.size))
    have y3 := keep hb z3
    have y4 := (hb.frozen (p := ⟨w.heap.size + 1 + 1, 0, none⟩) (cell_old z3)).trans z4
    have x3 := keep hb e3
    have x4 := (hb.frozen (p := ⟨w.heap.size + 1 + 1 + 1, 0, none⟩) (cell_old e3)).trans e4
    clear hb z3 z4 e3 e4
    have t3 : (w'.setCell ⟨w.heap.size + 1 + 1, 0, none⟩ (I 0)).cell? ⟨w.heap.size + 1 + 1 + 1, 0, none⟩ = some (I 1) := set_far (by dsimp only; omega) x3
    have t4 : (w'.setCell ⟨w.heap.size + 1 + 1, 0, none⟩ (I 0)).frozen? ⟨w.heap.size + 1 + 1 + 1, 0, none⟩ = false := set_frozen x4
    (refine Rely.Tl.step (o := ?rlo5) ?rlho5 ?rlk5; (case rlho5 => (simp only [List.getElem?_toArray, List.getElem?_cons_succ, List.getElem?_cons_zero]; rfl)))
    go_wp2
    refine ⟨rfl, t3, ?_⟩
    (refine Rely.Tl.last (o := ?rlo6) ?rlho6 ?rlk6; (case rlho6 => (simp only [List.getElem?_toArray, List.getElem?_cons_succ, List.getElem?_cons_zero]; rfl)))
    go_wp2
    refine ⟨rfl, ?_⟩
    go_wp2
    refine bodyPost_ret (results_cc rfl _ _ ⟨w.heap.size + 1 + 1, 0, none⟩ ⟨w.heap.size + 1 + 1 + 1, 0, none⟩ (I 0) (I 1) rfl rfl (set_far (by dsimp only; omega) (set_same y3)) (set_same t3)) rfl ?_
    exact ⟨rfl, (HB'.out.setCell (by dsimp only; omega) _).setCell (by dsimp only; omega) _⟩
  · exfalso
    rcases HBAD.out with h | h
    · omega
    · rw [h] at hoq; exact absurd hoq (by decide)

end Go.Proofs.YtgacdmkhgllceaaGreatDoor
