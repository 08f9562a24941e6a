/- partial.Make walked: its loop. -/
import Derived.Test.YtgacdmkhgllceaaGreatDoorZWorkB
namespace Go.Proofs.YtgacdmkhgllceaaGreatDoor
open Go.RowKit Go.Shelf
attribute [local go_sem] Oper.semAt_some

/-- What Make makes of right arguments. -/
noncomputable def makeMain (rows : List (List Int)) (owners commits : List Int) (txt : List UInt8) (ps : List Pr) (ss : List (Int × Int)) (d f : Int) (x : Pr) : Int × Int :=
  match mkSum rows owners commits (accY rows owners (ps.map Pr.kp)) (ownIdx owners owners.length x.kp) ss 0 with
  | none => (0, 340)
  | some sum => if powP 4 d = x.d ∧ powP 4 f = x.e then (partOf d f (bindN (commits.headD 0) txt (allV ps) x.kp : Int) (chN (commits.headD 0) txt ps) sum, 0) else (0, 420)

/-- What Make's loop holds. -/
structure ML (w W0 : World) (sb ib : Nat) (S : List Nat → List (Int × Int) → Int → Option Int) (idx : List Nat) (ss : List (Int × Int)) (pre : List Nat) (W : World) : Prop where
  same : Same (fun k => k ≠ w.heap.size + 1 + 1 ∧ k ≠ w.heap.size + 1 + 1 + 1 ∧ k ≠ sb ∧ k ≠ ib ∧ k < W0.heap.size) W0 W
  sum : ∃ acc, W.heap[sb]? = some (.cells #[I acc] 3 (0, 0)) ∧ S idx ss 0 = S (idx.drop pre.length) (ss.drop pre.length) acc
  i : W.heap[ib]? = some (.cells #[I pre.length] 3 (0, 0))
  z : W.heap[w.heap.size + 1 + 1]? = some (.cells #[I 0] 3 (0, 0))
  e : W.heap[w.heap.size + 1 + 1 + 1]? = some (.cells #[I 0] 32 (0, 0))
  le : pre.length ≤ ss.length
/-- What a share that is refused leaves. -/
structure MX (w W0 : World) (sb ib : Nat) (S : List Nat → List (Int × Int) → Int → Option Int) (idx : List Nat) (ss : List (Int × Int)) (W : World) : Prop where
  same : Same (fun k => k ≠ w.heap.size + 1 + 1 ∧ k ≠ w.heap.size + 1 + 1 + 1 ∧ k ≠ sb ∧ k ≠ ib ∧ k < W0.heap.size) W0 W
  bad : S idx ss 0 = none
  z : W.heap[w.heap.size + 1 + 1]? = some (.cells #[I 0] 3 (0, 0))
  e : W.heap[w.heap.size + 1 + 1 + 1]? = some (.cells #[I 340] 32 (0, 0))
theorem Same.trans3 {K K' : Nat → Prop} {A B C : World} (h : Same K A B) (k : Same K' B C) (hk : ∀ j, K j → K' j) : Same K A C := h.trans (k.mono fun j _ hj => hk j hj)
theorem ML.keep {w W0 : World} {sb ib : Nat} {S : List Nat → List (Int × Int) → Int → Option Int} {idx pre : List Nat} {ss : List (Int × Int)} {A B : World} (h : ML w W0 sb ib S idx ss pre A) (hs : Same (fun k => k < W0.heap.size) A B) (h1 : w.heap.size + 4 ≤ W0.heap.size) (h2 : sb < W0.heap.size) (h3 : ib < W0.heap.size) : ML w W0 sb ib S idx ss pre B := by
  have hz := h.same.size
  obtain ⟨acc, e1, e2⟩ := h.sum
  exact ⟨h.same.trans3 hs fun j hj => hj.2.2.2.2, ⟨acc, (hs.block _ (by omega) h2).trans e1, e2⟩, (hs.block _ (by omega) h3).trans h.i, (hs.block _ (by omega) (by omega)).trans h.z, (hs.block _ (by omega) (by omega)).trans h.e, h.le⟩
theorem MX.keep {w W0 : World} {sb ib : Nat} {S : List Nat → List (Int × Int) → Int → Option Int} {idx : List Nat} {ss : List (Int × Int)} {A B : World} (h : MX w W0 sb ib S idx ss A) (hs : Same (fun k => k < W0.heap.size) A B) (h1 : w.heap.size + 4 ≤ W0.heap.size) : MX w W0 sb ib S idx ss B := by
  have hz := h.same.size
  exact ⟨h.same.trans3 hs fun j hj => hj.2.2.2.2, h.bad, (hs.block _ (by omega) (by omega)).trans h.z, (hs.block _ (by omega) (by omega)).trans h.e⟩

/-- A share is refused. -/
theorem ML.refuse {w W0 : World} {sb ib : Nat} {S : List Nat → List (Int × Int) → Int → Option Int} {idx pre : List Nat} {ss : List (Int × Int)} {A B : World} (h : ML w W0 sb ib S idx ss pre A) (hb : Below A.heap.size A B) (hS : S idx ss 0 = none) (h1 : w.heap.size + 4 ≤ W0.heap.size) :
    Same (fun k => ¬ (k = w.heap.size + 1 + 1 ∨ k = w.heap.size + 1 + 1 + 1 ∨ k = sb ∨ k = ib ∨ W0.heap.size + 2 ≤ k)) A ((B.setCell ⟨w.heap.size + 1 + 1, 0, none⟩ (I 0)).setCell ⟨w.heap.size + 1 + 1 + 1, 0, none⟩ (I 340)) ∧
    MX w W0 sb ib S idx ss ((B.setCell ⟨w.heap.size + 1 + 1, 0, none⟩ (I 0)).setCell ⟨w.heap.size + 1 + 1 + 1, 0, none⟩ (I 340)) := by
  have hz := h.same.size
  have s1 : Same (fun k => k ≠ w.heap.size + 1 + 1 ∧ k ≠ w.heap.size + 1 + 1 + 1) A ((B.setCell ⟨w.heap.size + 1 + 1, 0, none⟩ (I 0)).setCell ⟨w.heap.size + 1 + 1 + 1, 0, none⟩ (I 340)) :=
    ((Same.of_below hb fun _ h _ => h).setCell (.inl fun h => h.1 rfl) _).setCell (.inl fun h => h.2 rfl) _
  have rz : B.heap[w.heap.size + 1 + 1]? = some (.cells #[I 0] 3 (0, 0)) := (hb.block _ (by omega)).trans h.z
  have re : B.heap[w.heap.size + 1 + 1 + 1]? = some (.cells #[I 0] 32 (0, 0)) := (hb.block _ (by omega)).trans h.e
  refine ⟨s1.mono fun k _ hk => ⟨fun e => hk (.inl e), fun e => hk (.inr (.inl e))⟩, h.same.trans3 s1 fun k hk => ⟨hk.1, hk.2.1⟩, hS, ?_, ?_⟩
  · exact (Deep.blk_setCell_other _ ⟨w.heap.size + 1 + 1 + 1, 0, none⟩ _ _ (by dsimp only; omega)).trans (row_set rz 0 _)
  · exact row_set ((Deep.blk_setCell_other _ ⟨w.heap.size + 1 + 1, 0, none⟩ _ _ (by dsimp only; omega)).trans re) 0 _
/-- A share is taken. -/
theorem ML.step {w W0 : World} {sb ib : Nat} {S : List Nat → List (Int × Int) → Int → Option Int} {idx pre : List Nat} {ss : List (Int × Int)} {A B : World} {j : Nat} {acc' : Int} {b : Value} (h : ML w W0 sb ib S idx ss pre A) (hb : Below A.heap.size A B)
    (hS : S idx ss 0 = S (idx.drop (pre.length + 1)) (ss.drop (pre.length + 1)) acc') (_h1 : w.heap.size + 4 ≤ W0.heap.size) (h2 : sb < W0.heap.size ∧ w.heap.size + 4 ≤ sb) (h3 : ib < W0.heap.size ∧ w.heap.size + 4 ≤ ib) (hne : sb ≠ ib) (hl : pre.length < ss.length) (hbv : b = I ((pre ++ [j]).length : Nat)) :
    Same (fun k => ¬ (k = w.heap.size + 1 + 1 ∨ k = w.heap.size + 1 + 1 + 1 ∨ k = sb ∨ k = ib ∨ W0.heap.size + 2 ≤ k)) A ((B.setCell ⟨sb, 0, none⟩ (I acc')).setCell ⟨ib, 0, none⟩ b) ∧
    ML w W0 sb ib S idx ss (pre ++ [j]) ((B.setCell ⟨sb, 0, none⟩ (I acc')).setCell ⟨ib, 0, none⟩ b) := by
  have hz := h.same.size
  have s1 : Same (fun k => k ≠ sb ∧ k ≠ ib) A ((B.setCell ⟨sb, 0, none⟩ (I acc')).setCell ⟨ib, 0, none⟩ b) :=
    ((Same.of_below hb fun _ h _ => h).setCell (.inl fun h => h.1 rfl) _).setCell (.inl fun h => h.2 rfl) _
  obtain ⟨acc, e1, _⟩ := h.sum
  have rs : B.heap[sb]? = some (.cells #[I acc] 3 (0, 0)) := (hb.block _ (by omega)).trans e1
  have ri : B.heap[ib]? = some (.cells #[I pre.length] 3 (0, 0)) := (hb.block _ (by omega)).trans h.i
  refine ⟨s1.mono fun k _ hk => ⟨fun e => hk (.inr (.inr (.inl e))), fun e => hk (.inr (.inr (.inr (.inl e))))⟩, h.same.trans3 s1 fun k hk => ⟨hk.2.2.1, hk.2.2.2.1⟩, ⟨acc', ?_, ?_⟩, ?_, ?_, ?_, ?_⟩
  · exact (Deep.blk_setCell_other _ ⟨ib, 0, none⟩ _ _ hne).trans (row_set rs 0 _)
  · rw [List.length_append, List.length_singleton]; exact hS
  · rw [← hbv]; exact row_set ((Deep.blk_setCell_other _ ⟨sb, 0, none⟩ _ _ (by dsimp only; omega)).trans ri) 0 _
  · exact (s1.block _ (by omega) ⟨by omega, by omega⟩).trans h.z
  · exact (s1.block _ (by omega) ⟨by omega, by omega⟩).trans h.e
  · rw [List.length_append, List.length_singleton]; omega
theorem drop_prefix {α : Type} {pre xs : List α} {x : α} (h : pre ++ [x] <+: xs) : xs.drop pre.length = x :: xs.drop (pre.length + 1) := by
  obtain ⟨t, rfl⟩ := h
  simp

set_option maxRecDepth 100000 in
set_option maxHeartbeats 4000000 in
theorem make_main (ep : Int) (vr vo vc vt vp vs : Value) (rows : List (List Int)) (owners commits : List Int) (txt : List UInt8) (ps : List Pr) (ss : List (Int × Int)) (kp d f : Int) (w : World) (hss : Shares w vs ss) (hr : Rows2 w vr rows) (ho : Ints w vo owners) (hc : Ints w vc commits) (ht : Bytes w vt txt) (hp : Pairs w vp ps) (hg : Glob w)
    (hE : begE ep rows owners commits txt.length ps = 0) (i : Nat) (hi : i < ps.length) (hix : idx (isKp kp) ps = i) (hok : [d, f].any oddQ = false) :
    Calls Tryz.prog 20 #[.agg #[I ep, vr, vo, vc], vt, vp, I kp, vs, I d, I f] w fun e w' => e = .returned (.tuple #[I (makeMain rows owners commits txt ps ss d f ps[i]).1, I (makeMain rows owners commits txt ps ss d f ps[i]).2]) ∧ Below w.heap.size w w' := by
  obtain ⟨Ap, cp, rfl, hmp⟩ := hp.shape
  obtain ⟨As, cs, rfl, hms⟩ := hss.shape
  obtain ⟨Ao, co, rfl, _⟩ := ho.shape
  have hC := mk_cells w ep vr (.slice Ao owners.length co) vc (.slice As ss.length cs)
  obtain ⟨W, hW⟩ : ∃ W, mkW w ep vr (.slice Ao owners.length co) vc (.slice As ss.length cs) = W := ⟨_, rfl⟩
  rw [hW] at hC
  unfold mkW at hW
  have b0 := hC.k0
  have b1 := hC.k1
  have b2 := hC.k2
  have b3 := hC.k3
  have HC := Lib.hid hC
  have HE := Lib.hid hE
  have HIX := Lib.hid hix
  have HOK := Lib.hid hok
  have HSS := Lib.hid hss
  have HR0 := Lib.hid hr
  have HO0 := Lib.hid ho
  have HK0 := Lib.hid hc
  have HT0 := Lib.hid ht
  have HP0 := Lib.hid hp
  have HG0 := Lib.hid hg
  have hbel := hC.bel
  have HBEL := Lib.hid hbel
  clear hC hE hr ho hc ht hp hg hmp hix hok hss hbel
  refine (callsIn_wide (n := 5)).1 ?_
  refine callsIn_of_wp_marks Tryz.func20 rfl trivial ?_
  simp only [Tryz.ntmps20, List.size_toArray, List.length_cons, List.length_nil, Nat.reduceAdd, Nat.reduceSub, Array.replicate_succ, Array.replicate_zero, List.push_toArray, List.append_toArray, List.nil_append, List.cons_append]
  gi_wp2_with fail
  refine ⟨trivial, ?_⟩
  refine (callsIn_wide.2 (begin_good ep vr _ vc vt _ rows owners commits txt ps W (HR0.out.below HBEL.out) (HO0.out.below HBEL.out) (HK0.out.below HBEL.out) (HT0.out.below HBEL.out) (HP0.out.below HBEL.out) (HG0.out.below HBEL.out) HE.out)).mono ?_
  rintro e w2 ⟨g, vy, vl, rfl, hbg, hb2⟩
  obtain ⟨Ay, cy, rfl, _⟩ := hbg.wy.shape
  have HBG := Lib.hid hbg
  have HB2 := Lib.hid (HC.out.bel.trans (hb2.mono HC.out.bel.size))
  have hz := (one_cell ((hb2.block _ (by have := HC.out.siz; omega)).trans HC.out.z))
  have he := (one_cell ((hb2.block _ (by have := HC.out.siz; omega)).trans HC.out.e))
  have HZB := Lib.hid ((hb2.block (w.heap.size + 1 + 1) (by have := HC.out.siz; omega)).trans HC.out.z)
  have HEB := Lib.hid ((hb2.block (w.heap.size + 1 + 1 + 1) (by have := HC.out.siz; omega)).trans HC.out.e)
  have HKC : Hid (w2.cell? ⟨w.heap.size, 1, none⟩ = some vr ∧ w2.cell? ⟨w.heap.size, 2, none⟩ = some (.slice Ao owners.length co) ∧ w2.cell? ⟨w.heap.size, 3, none⟩ = some vc ∧ w2.cell? ⟨w.heap.size + 1, 0, none⟩ = some (.slice As ss.length cs)) := Lib.hid ⟨keep hb2 b1, keep hb2 b2, keep hb2 b3, keep hb2 HC.out.s⟩
  have hs2 : w.heap.size + 4 ≤ w2.heap.size := by have := HC.out.siz; have := hb2.size; omega
  have HS2 := Lib.hid hs2
  obtain ⟨wA, hwA⟩ : ∃ wA, w2.alloc (.cells #[.pointer (some ⟨g, 0, none⟩)] 90) = wA := ⟨_, rfl⟩
  have he1 := old_cell (.cells #[.pointer (some ⟨g, 0, none⟩)] 90) he
  have hba := (Below.refl w2.heap.size w2).alloc (Nat.le_refl _) (.cells #[.pointer (some ⟨g, 0, none⟩)] 90)
  have hn1 := new_cell w2 (.pointer (some ⟨g, 0, none⟩)) 90 w2.heap.size rfl
  rw [hwA] at he1 hba hn1
  have HBA := Lib.hid hba
  obtain ⟨e1, e2⟩ := he1
  obtain ⟨n1, n2⟩ := hn1
  have i3 := setCell_id e1
  have HWA : Hid (WorkB wA g ep vr (.slice Ao owners.length co) vc vt (.slice Ap ps.length cp) (.slice Ay (accY rows owners (ps.map Pr.kp)).length cy) vl (prodP (nonceN (commits.headD 0) txt (allV ps)) ps) (chN (commits.headD 0) txt ps)) := Lib.hid (HBG.out.wb.below HBA.out)
  have h5 : wA.cell? ⟨g, 5, none⟩ = some (.slice Ap ps.length cp) := by rw [cell_of_row _ g 5 _ _ (0, 0) HWA.out]; rfl
  have HPA : Hid (Pairs wA (.slice Ap ps.length cp) ps) := Lib.hid (HP0.out.below (HB2.out.trans (HBA.out.mono HB2.out.size)))
  have HSA : Hid (wA.heap.size = w2.heap.size + 1) := Lib.hid (by rw [← hwA]; simp)
  have HN1 := Lib.hid n1
  clear hb2 b0 b1 b2 b3 hW hz he hbg hba
  have HBN := Lib.hid ((Below.refl wA.heap.size wA).alloc (Nat.le_refl _) (.cells #[I d, I f] 3))
  gi_wp2_with fail
  refine ⟨trivial, ?_⟩
  refine (callsIn_wide.2 (find_any g kp _ _ ps [d, f] _ (keepA _ h5) (HPA.out.below HBN.out) (two_ints _ _ _))).mono ?_
  rintro e w3 ⟨hf, hb3⟩
  rcases hf with ⟨hf, rfl⟩ | ⟨i', hi', hix', _, rfl⟩
  · exfalso
    rcases hf with h | h
    · have := HIX.out; omega
    · rw [HOK.out] at h; exact absurd h (by decide)
  · obtain rfl : i' = i := by have := HIX.out; omega
    have HB3 : Hid (Below wA.heap.size wA w3) := Lib.hid (HBN.out.trans (hb3.mono HBN.out.size))
    have HB23 : Hid (Below w2.heap.size w2 w3) := Lib.hid (HBA.out.trans (HB3.out.mono HBA.out.size))
    have HS3 : Hid (w2.heap.size + 1 ≤ w3.heap.size) := Lib.hid (by have := HSA.out; have := HB3.out.size; omega)
    have HX : Hid (∃ x, ps[i'] = x) := Lib.hid ⟨_, rfl⟩
    obtain ⟨x, hx⟩ := HX.out
    have HXE := Lib.hid hx
    have HXK : Hid (x.kp = kp) := Lib.hid (by rw [← hx]; exact isKp_at hi hix')
    have HKX : Hid (0 ≤ x.kp ∧ x.kp < 4611686018427387904) := Lib.hid (by rw [← hx]; have h := ((begE_pairs HE.out).2 ps[i'] (List.getElem_mem hi)).1; omega)
    rw [hx]
    replace e1 := keep HB3.out e1
    replace e2 := (HB3.out.frozen (p := ⟨w.heap.size + 1 + 1 + 1, 0, none⟩) (by have := HSA.out; have := HS2.out; dsimp only; omega)).trans e2
    replace n1 := keep HB3.out n1
    clear hb3 h5 i3 n2 hwA hix' hx HX hi' HBN
    have hs3 : w.heap.size + 4 ≤ w3.heap.size := by have := HS2.out; have := HS3.out; omega
    obtain ⟨wC, hwC⟩ : ∃ wC, w3.alloc (.cells #[I x.kp, I x.no, I x.d, I x.e] 85) = wC := ⟨_, rfl⟩
    have hrow := heap_alloc_new w3 (.cells #[I x.kp, I x.no, I x.d, I x.e] 85)
    have hbC := (Below.refl w3.heap.size w3).alloc (Nat.le_refl _) (.cells #[I x.kp, I x.no, I x.d, I x.e] 85)
    have zC : wC.heap.size = w3.heap.size + 1 := by rw [← hwC]; simp
    rw [hwC] at hrow hbC
    have f1 := keep hbC e1
    have f2 := (hbC.frozen (p := ⟨w.heap.size + 1 + 1 + 1, 0, none⟩) (cell_old e1)).trans e2
    have j3 := setCell_id f1
    have m1 := keep hbC n1
    obtain ⟨wD, hwD⟩ : ∃ wD, (wC.alloc (.cells #[I 0] 3)).alloc (.cells #[I 0] 3) = wD := ⟨_, rfl⟩
    have hbD : Below wC.heap.size wC wD := by rw [← hwD]; exact ((Below.refl _ _).alloc (Nat.le_refl _) _).alloc (by simp) _
    have zD : wD.heap.size = w3.heap.size + 3 := by rw [← hwD]; simp; omega
    have sD : wD.heap[w3.heap.size + 1]? = some (.cells #[I 0] 3 (0, 0)) := by
      rw [← hwD]
      refine (heap_alloc_old (wC.alloc (.cells #[I 0] 3)) _ (by simp; omega)).trans ?_
      have := heap_alloc_new wC (.cells #[I 0] 3)
      rwa [zC] at this
    have iD : wD.heap[w3.heap.size + 1 + 1]? = some (.cells #[I 0] 3 (0, 0)) := by
      rw [← hwD]
      have := heap_alloc_new (wC.alloc (.cells #[I 0] 3)) (.cells #[I 0] 3)
      rwa [World.size_alloc, zC] at this
    have zC' : wC.heap.size = w3.heap.size + 1 := zC
    obtain ⟨s1, s2⟩ := one_cell sD
    obtain ⟨k1, k2⟩ := one_cell iD
    have s3 := setCell_id s1
    have k3 := setCell_id k1
    have m2 := keep hbD m1
    have HM2 := Lib.hid m2
    have HROW := Lib.hid ((hbD.block w3.heap.size (by omega)).trans hrow)
    have HB3D : Hid (Below w3.heap.size w3 wD) := Lib.hid (hbC.trans (hbD.mono (by omega)))
    have HSD := Lib.hid sD
    have HID := Lib.hid iD
    have HZD := Lib.hid zD
    clear hrow hbC hbD sD iD zD zC' e1 e2 n1 m1
    gi_wp2_with fail
    refine ⟨trivial, ?_⟩
    refine (callsIn_wide.2 (rows_any g kp _)).mono ?_
    rintro e W0 ⟨rfl, hW0⟩
    have hb0 : Below wD.heap.size wD W0 := by rw [hW0]; exact ((Below.refl _ _).alloc (Nat.le_refl _) _).alloc (by simp) _
    have z0 : W0.heap.size = w3.heap.size + 5 := by rw [hW0]; have := HZD.out; simp; omega
    have q2 : W0.cell? ⟨wD.heap.size, 0, none⟩ = some (.pointer (some ⟨g, 0, none⟩)) := by rw [hW0]; exact keepA _ (by rw [World.cell?_alloc_new]; rfl)
    have q3 : W0.cell? ⟨wD.heap.size + 1, 0, none⟩ = some (I kp) := by
      rw [hW0]
      exact (new_cell (wD.alloc (.cells #[.pointer (some ⟨g, 0, none⟩)] 90)) (I kp) 3 (wD.heap.size + 1) (by simp)).1
    have HB30 : Hid (Below w3.heap.size w3 W0) := Lib.hid (HB3D.out.trans (hb0.mono (by have := HZD.out; omega)))
    have HB20 : Hid (Below w2.heap.size w2 W0) := Lib.hid (HB23.out.trans (HB30.out.mono HB23.out.size))
    have HB00 : Hid (Below w.heap.size w W0) := Lib.hid (HB2.out.trans (HB20.out.mono HB2.out.size))
    have HQ2 := Lib.hid q2
    have HQ3 := Lib.hid q3
    have HZ0 : Hid (W0.heap.size = w3.heap.size + 5 ∧ wD.heap.size = w3.heap.size + 3 ∧ w2.heap.size + 1 ≤ w3.heap.size ∧ w.heap.size + 4 ≤ w2.heap.size ∧ W.heap.size = w.heap.size + 4) := Lib.hid ⟨z0, HZD.out, HS3.out, HS2.out, HC.out.siz⟩
    have HSB : Hid (W0.heap[w3.heap.size + 1]? = some (.cells #[I 0] 3 (0, 0))) := Lib.hid ((hb0.block _ (by have := HZD.out; omega)).trans HSD.out)
    have HIB : Hid (W0.heap[w3.heap.size + 1 + 1]? = some (.cells #[I 0] 3 (0, 0))) := Lib.hid ((hb0.block _ (by have := HZD.out; omega)).trans HID.out)
    have HPR : Hid (W0.heap[w3.heap.size]? = some (.cells #[I x.kp, I x.no, I x.d, I x.e] 85 (0, 0))) := Lib.hid ((hb0.block _ (by have := HZD.out; omega)).trans HROW.out)
    have HPT : Hid (W0.cell? ⟨w2.heap.size, 0, none⟩ = some (.pointer (some ⟨g, 0, none⟩))) := Lib.hid (keep hb0 HM2.out)
    have HGS : Hid (W.heap.size ≤ g ∧ g < w2.heap.size) := Lib.hid ⟨HBG.out.new, (Array.getElem?_eq_some_iff.1 HBG.out.wb).1⟩
    have HQR : Hid (progErr rows owners = 0) := Lib.hid (early_zero (begE_zero HE.out).1).1
    have HLO : Hid (owners.length ≤ 1000 ∧ rows.length = owners.length) := Lib.hid (by obtain ⟨h1, _, h3, _⟩ := progErr_zero HQR.out; omega)
    -- what stays
    have HLOW : Hid (∀ A : World, Same (fun k => k ≠ w.heap.size + 1 + 1 ∧ k ≠ w.heap.size + 1 + 1 + 1 ∧ k ≠ w3.heap.size + 1 ∧ k ≠ w3.heap.size + 1 + 1 ∧ k < W0.heap.size) W0 A → Below w.heap.size w A) := Lib.hid (fun A hs => by
      obtain ⟨a1, a2, a3, a4, a5⟩ := HZ0.out
      exact HB00.out.trans (hs.below (fun k hk => ⟨by omega, by omega, by omega, by omega, by omega⟩) HB00.out.size))
    have HLAT : Hid (∀ A : World, Same (fun k => k ≠ w.heap.size + 1 + 1 ∧ k ≠ w.heap.size + 1 + 1 + 1 ∧ k ≠ w3.heap.size + 1 ∧ k ≠ w3.heap.size + 1 + 1 ∧ k < W0.heap.size) W0 A → _) := Lib.hid (fun A hs => HBG.out.later (Wx := A) (fun b h1 h2 => by
      obtain ⟨a1, a2, a3, a4, a5⟩ := HZ0.out
      exact (hs.block b (by omega) ⟨by omega, by omega, by omega, by omega, by omega⟩).trans (HB20.out.block b h2)) (HK0.out.below (HLOW.out A hs)) (HT0.out.below (HLOW.out A hs)))
    have hit := rows1_iter wD.heap.size (wD.heap.size + 1) g kp Ao co owners W0 HLO.out.1
    clear hW0 hb0 z0 q2 q3 f1 f2 j3 s1 s2 s3 k1 k2 k3 m2
    gi_wp2
    refine range_law rfl (enters_of Tryz.func128 (by kernel_rfl) rfl) hit (fun _ => rfl) (fun k => k = w.heap.size + 1 + 1 ∨ k = w.heap.size + 1 + 1 + 1 ∨ k = w3.heap.size + 1 ∨ k = w3.heap.size + 1 + 1 ∨ W0.heap.size + 2 ≤ k) (fun k _ h2 => h2) (fun k h => h.elim) (fun k h => by have := HZ0.out; omega) (fun k h => h.elim)
      (fun pre W' => ML w W0 (w3.heap.size + 1) (w3.heap.size + 1 + 1) (mkSum rows owners commits (accY rows owners (ps.map Pr.kp))) (ownIdx owners owners.length kp) ss pre W')
      (fun c W' => c = .ret ∧ MX w W0 (w3.heap.size + 1) (w3.heap.size + 1 + 1) (mkSum rows owners commits (accY rows owners (ps.map Pr.kp))) (ownIdx owners owners.length kp) ss W') ?need ?keep ?keepx ?start ?a1 ?assign ?body ?done ?stop
    case assign =>
      intro l y W' K hK
      dsimp only [encN]
      gi_wp2
      exact hK
    case need =>
      intro s' A' h
      obtain ⟨a1, a2, a3, a4, a5⟩ := HZ0.out
      obtain ⟨g1, g2⟩ := HGS.out
      refine ⟨h.same.cell ⟨by dsimp only; omega, by dsimp only; omega, by dsimp only; omega, by dsimp only; omega, by dsimp only; omega⟩ HQ2.out, h.same.cell ⟨by dsimp only; omega, by dsimp only; omega, by dsimp only; omega, by dsimp only; omega, by dsimp only; omega⟩ HQ3.out, ?_, HO0.out.below (HLOW.out _ h.same)⟩
      rw [cell_of_row _ g 2 _ _ (0, 0) (HLAT.out _ h.same).1]; rfl
    case keep =>
      intro s' A' B' h hs
      have := HZ0.out
      exact h.keep (hs.mono fun k _ hk => ⟨fun h => h, by omega, by omega⟩) (by omega) (by omega) (by omega)
    case keepx =>
      rintro c A' B' ⟨hc, h⟩ hs
      have := HZ0.out
      exact ⟨hc, h.keep (hs.mono fun k _ hk => ⟨fun h => h, by omega, by omega⟩) (by omega)⟩
    case start =>
      exact ⟨Same.refl _ _, ⟨0, HSB.out, rfl⟩, HIB.out, (HB20.out.block _ (by have := HZ0.out; omega)).trans HZB.out, (HB20.out.block _ (by have := HZ0.out; omega)).trans HEB.out, Nat.zero_le _⟩
    case body =>
      rintro l pre j W' hz h hpre
      have HDR := Lib.hid (drop_prefix hpre)
      have hjl : j < owners.length := ownIdx_lt (hpre.subset (by simp : j ∈ pre ++ [j]))
      have HML := Lib.hid h
      obtain ⟨hsame, ⟨acc, hsum, hS⟩, hib, hzb, heb, hle⟩ := h
      have HLW := Lib.hid (HLOW.out _ hsame)
      have HLT := Lib.hid (HLAT.out _ hsame)
      have HSUM := Lib.hid hS
      obtain ⟨a1, a2, a3, a4, a5⟩ := HZ0.out
      have kS : W'.cell? ⟨w.heap.size + 1, 0, none⟩ = some (.slice As ss.length cs) := hsame.cell ⟨by dsimp only; omega, by dsimp only; omega, by dsimp only; omega, by dsimp only; omega, by dsimp only; omega⟩ (keep HB20.out HKC.out.2.2.2)
      obtain ⟨i1, i2⟩ := one_cell hib
      obtain ⟨z1, z2⟩ := one_cell hzb
      obtain ⟨e1, e2⟩ := one_cell heb
      obtain ⟨s1, s2⟩ := one_cell hsum
      have HJL := Lib.hid hjl
      have HZ1 : Hid (w.heap.size + 4 ≤ W0.heap.size ∧ w3.heap.size + 5 = W0.heap.size ∧ W0.heap.size + 2 ≤ W'.heap.size) := Lib.hid ⟨by omega, a1.symm, hz⟩
      clear hsame hsum hS hib hzb heb a1 a2 a3 a4 a5 hpre hit hz hjl
      by_cases hlt : pre.length < ss.length
      · have hn : ((pre.length : Int) == (ss.length : Int)) = false := beq_eq_false_iff_ne.2 (by omega)
        obtain ⟨ad, rfl, h1, h2⟩ := (HSS.out.below HLW.out).at pre.length hlt
        have HDS : Hid (ss.drop pre.length = ss[pre.length] :: ss.drop (pre.length + 1)) := Lib.hid (List.drop_eq_getElem_cons hlt)
        have HX2 : Hid (∃ y, ss[pre.length] = y) := Lib.hid ⟨_, rfl⟩
        obtain ⟨y, hy⟩ := HX2.out
        have HYE := Lib.hid hy
        rw [hy] at h1 h2
        clear hy HX2
        by_cases hrow : y.1 = (j : Int)
        · have hr1 : (y.1 != (j : Int)) = false := by rw [hrow]; simp
          have HROW2 := Lib.hid hrow
          have q1 : W'.cell? ⟨w.heap.size, 1, none⟩ = some vr := HML.out.same.cell ⟨by have := HZ0.out; dsimp only; omega, by have := HZ0.out; dsimp only; omega, by have := HZ0.out; dsimp only; omega, by have := HZ0.out; dsimp only; omega, by have := HZ0.out; dsimp only; omega⟩ (keep HB20.out HKC.out.1)
          have q2 : W'.cell? ⟨w.heap.size, 2, none⟩ = some (.slice Ao owners.length co) := HML.out.same.cell ⟨by have := HZ0.out; dsimp only; omega, by have := HZ0.out; dsimp only; omega, by have := HZ0.out; dsimp only; omega, by have := HZ0.out; dsimp only; omega, by have := HZ0.out; dsimp only; omega⟩ (keep HB20.out HKC.out.2.1)
          have q3 : W'.cell? ⟨w.heap.size, 3, none⟩ = some vc := HML.out.same.cell ⟨by have := HZ0.out; dsimp only; omega, by have := HZ0.out; dsimp only; omega, by have := HZ0.out; dsimp only; omega, by have := HZ0.out; dsimp only; omega, by have := HZ0.out; dsimp only; omega⟩ (keep HB20.out HKC.out.2.2.1)
          obtain ⟨fb, hfb⟩ : ∃ fb, fitB rows owners commits y.1 y.2 = fb := ⟨_, rfl⟩
          obtain ⟨fe, hfe⟩ : ∃ fe, fitErr rows owners commits y.1 y.2 = fe := ⟨_, rfl⟩
          have HFB := Lib.hid hfb
          have HFE := Lib.hid hfe
          clear hrow hfb hfe
          gi_wp2
          refine Rely.regionBIn _ _ _ _ (by kernel_rfl) [0,1,2,3,4,5,6,7,8,9,10,11] [] [12,13] (fun _ _ _ => True) (fun _ => True) (by kernel_rfl) (fun _ _ => trivial) ?_
          (refine Rely.Fx.runIn ?rlc1 rfl rfl rfl rfl (fun _ _ => ?rlh1) ?rlk1; (case rlh1 => (go_simp; try rfl)); go_simp)
          (refine Rely.Fx.loadIn ?rlcz rfl (by kernel_rfl) rfl rfl rfl (Rely.Stab.refl _ _ _) (fun _ hb => ?rlhz) ?rlkz; (case rlhz => (have hr0 := (hb.cell (cell_old q1)).trans q1; have hr1 := (hb.cell (cell_old q2)).trans q2; go_simp; try rfl)); go_simp)
          (refine Rely.Fx.runIn ?rlc2 rfl rfl rfl rfl (fun _ _ => ?rlh2) ?rlk2; (case rlh2 => (go_simp; try rfl)); go_simp)
          (refine Rely.Fx.loadIn ?rlc3 rfl (by kernel_rfl) rfl rfl rfl (Rely.Stab.refl _ _ _) (fun _ hb => ?rlh3) ?rlk3; (case rlh3 => (have hrl := (hb.cell (cell_old q3)).trans q3; go_simp; try rfl)); go_simp)
          (refine Rely.Fx.loadIn ?rlc4 rfl (by kernel_rfl) rfl rfl rfl (Rely.Stab.refl _ _ _) (fun _ hb => ?rlh4) ?rlk4; (case rlh4 => (have hrl := (hb.cell (cell_old kS)).trans kS; go_simp; try rfl)); go_simp)
          (refine Rely.Fx.loadIn ?rlc5 rfl (by kernel_rfl) rfl rfl rfl (Rely.Stab.refl _ _ _) (fun _ hb => ?rlh5) ?rlk5; (case rlh5 => (have hrl := (hb.cell (cell_old i1)).trans i1; go_simp; try rfl)); go_simp)
          (refine Rely.Fx.runIn ?rlc6 rfl rfl rfl rfl (fun _ _ => ?rlh6) ?rlk6; (case rlh6 => (go_simp; try rfl)); go_simp)
          (refine Rely.Fx.loadIn ?rlcy rfl (by kernel_rfl) rfl rfl rfl (Rely.Stab.refl _ _ _) (fun _ hb => ?rlhy) ?rlky; (case rlhy => (have hr0 := (hb.cell (cell_old h1)).trans h1; have hr1 := (hb.cell (cell_old h2)).trans h2; go_simp; try rfl)); go_simp)
          (refine Rely.Fx.callIn (o := ?rlo7) (Value.tuple #[.bool fb, I fe]) 71 ?rlho7 ?rlhd7 (by simp) (by kernel_rfl) ?rlh7 ?rlk7; (case rlho7 => (simp only [List.getElem?_toArray, List.getElem?_cons_succ, List.getElem?_cons_zero]; rfl)); (case rlhd7 => rfl))
          · intro w' hb
            gi_wp2_with fail
            refine ⟨trivial, ?_⟩
            refine (CallsIn.inRound _ (callsIn_wide.2 (dealFits_any _ _ _ rows owners commits y.1 y.2 _ ((HR0.out.below HLW.out).below hb) ((HO0.out.below HLW.out).below hb) ((HK0.out.below HLW.out).below hb)))).mono ?_
            rintro r w'' ⟨rfl, hb'⟩
            rw [HFB.out, HFE.out]
            gi_wp2
            exact ⟨_, rfl, rfl, hb.trans (hb'.mono hb.size), Rely.Stab.none _ _ _ _⟩
          go_simp
          (refine Rely.Fx.runIn ?rlc8 rfl rfl rfl rfl (fun _ _ => ?rlh8) ?rlk8; (case rlh8 => (go_simp; try rfl)); go_simp)
          (refine Rely.Fx.runIn ?rlc9 rfl rfl rfl rfl (fun _ _ => ?rlh9) ?rlk9; (case rlh9 => (go_simp; try rfl)); go_simp)
          (refine Rely.Fx.runIn ?rlc10 rfl rfl rfl rfl (fun _ _ => ?rlh10) ?rlk10; (case rlh10 => (go_simp; try rfl)); go_simp)
          refine Rely.Fx.done ?_
          refine Rely.Lt.done ?_
          intro w5 hb5 _
          have HB5 := Lib.hid hb5
          replace i1 := keep hb5 i1
          replace i2 := (hb5.frozen (p := ⟨w3.heap.size + 1 + 1, 0, none⟩) (Nat.lt_of_lt_of_le (by have := HZ1.out; dsimp only; omega) (Nat.le_refl _))).trans i2
          replace z1 := keep hb5 z1
          replace z2 := (hb5.frozen (p := ⟨w.heap.size + 1 + 1, 0, none⟩) (Nat.lt_of_lt_of_le (by have := HZ1.out; dsimp only; omega) (Nat.le_refl _))).trans z2
          replace e1 := keep hb5 e1
          replace e2 := (hb5.frozen (p := ⟨w.heap.size + 1 + 1 + 1, 0, none⟩) (Nat.lt_of_lt_of_le (by have := HZ1.out; dsimp only; omega) (Nat.le_refl _))).trans e2
          replace s1 := keep hb5 s1
          replace s2 := (hb5.frozen (p := ⟨w3.heap.size + 1, 0, none⟩) (Nat.lt_of_lt_of_le (by have := HZ1.out; dsimp only; omega) (Nat.le_refl _))).trans s2
          replace kS := keep hb5 kS
          replace h1 := keep hb5 h1
          replace h2 := keep hb5 h2
          clear hb5 q1 q2 q3
          (refine Rely.Tl.stepIn (o := ?rlo11) ?rlho11 ?rlk11; (case rlho11 => (simp only [List.getElem?_toArray, List.getElem?_cons_succ, List.getElem?_cons_zero]; rfl)))
          gi_wp2
          refine ⟨rfl, ?_⟩
          (refine Rely.Tl.lastIn (o := ?rlo12) ?rlho12 ?rlk12; (case rlho12 => (simp only [List.getElem?_toArray, List.getElem?_cons_succ, List.getElem?_cons_zero]; rfl)))
          gi_wp2
          refine ⟨rfl, ?_⟩
          cases fb with
          | false =>
            have HBAD : Hid (mkSum rows owners commits (accY rows owners (ps.map Pr.kp)) (ownIdx owners owners.length kp) ss 0 = none) := Lib.hid (by
              rw [HSUM.out, HDR.out, HDS.out, HYE.out]; unfold mkSum; rw [if_neg (fun h => by have h2 := h.2; rw [HFB.out] at h2; exact absurd h2 (by decide))])
            by_cases hfe0 : fe = 0
            · have g1 : (fe != 0) = false := by rw [hfe0]; rfl
              clear hfe0
              gi_wp2
              obtain ⟨r1, r2⟩ := HML.out.refuse HB5.out HBAD.out HZ1.out.1
              exact ⟨r1, rfl, r2⟩
            · have g1 : (fe != 0) = true := bne_iff_ne.2 hfe0
              clear hfe0
              gi_wp2
              obtain ⟨r1, r2⟩ := HML.out.refuse HB5.out HBAD.out HZ1.out.1
              exact ⟨r1, rfl, r2⟩
          | true =>
            have hfe0 : fe = 0 := by
              have h := HFB.out
              unfold fitB at h
              by_cases h0 : fitErr rows owners commits y.1 y.2 = 0
              · rw [← HFE.out, h0]
              · rw [if_pos h0] at h; exact absurd h (by decide)
            have g1 : (fe != 0) = false := by rw [hfe0]; rfl
            clear hfe0
            have hptr : w5.cell? ⟨w2.heap.size, 0, none⟩ = some (.pointer (some ⟨g, 0, none⟩)) := keep HB5.out (HML.out.same.cell ⟨by have := HZ0.out; dsimp only; omega, by have := HZ0.out; dsimp only; omega, by have := HZ0.out; dsimp only; omega, by have := HZ0.out; dsimp only; omega, by have := HZ0.out; dsimp only; omega⟩ HPT.out)
            have c6 : w5.cell? ⟨g, 6, none⟩ = some (.slice Ay (accY rows owners (ps.map Pr.kp)).length cy) := by rw [cell_of_row _ g 6 _ _ (0, 0) (HLT.out.1.below HB5.out)]; rfl
            have hyl : j < (accY rows owners (ps.map Pr.kp)).length := by have := HLO.out.2; have := HJL.out; simp [accY]; omega
            obtain ⟨ay, rfl, ey⟩ := (HLT.out.2.2.below HB5.out).at j hyl
            have hyg : (accY rows owners (ps.map Pr.kp)).getD j 0 = (accY rows owners (ps.map Pr.kp))[j] := by simp [hyl]
            rw [← hyg] at ey
            obtain ⟨yj, hyj⟩ : ∃ yj, (accY rows owners (ps.map Pr.kp)).getD j 0 = yj := ⟨_, rfl⟩
            rw [hyj] at ey
            have HNX : Hid (mkSum rows owners commits (accY rows owners (ps.map Pr.kp)) (ownIdx owners owners.length kp) ss 0 = mkSum rows owners commits (accY rows owners (ps.map Pr.kp)) ((ownIdx owners owners.length kp).drop (pre.length + 1)) (ss.drop (pre.length + 1)) (add acc (mul yj y.2))) := Lib.hid (by
              rw [HSUM.out, HDR.out, HDS.out, HYE.out, mkSum, if_pos ⟨HROW2.out, HFB.out⟩, hyj])
            have hlt2 : (pre.length : Int) < (ss.length : Int) := by omega
            have HHLT := Lib.hid hlt
            have hyl2 : (j : Int) < ((accY rows owners (ps.map Pr.kp)).length : Int) := by omega
            clear hyg hyj hn
            generalize (accY rows owners (ps.map Pr.kp)).length = ny at *
            gi_wp2
            refine Rely.regionBIn _ _ _ _ (by kernel_rfl) [0,1,2,3,4,5,6,7,8,9,10,11,12,13,14] [] [15] (fun _ _ _ => True) (fun _ => True) (by kernel_rfl) (fun _ _ => trivial) ?_
            (refine Rely.Fx.loadIn ?rlc13 rfl (by kernel_rfl) rfl rfl rfl (Rely.Stab.refl _ _ _) (fun _ hb => ?rlh13) ?rlk13; (case rlh13 => (have hrl := (hb.cell (cell_old s1)).trans s1; go_simp; try rfl)); go_simp)
            (refine Rely.Fx.loadIn ?rlc14 rfl (by kernel_rfl) rfl rfl rfl (Rely.Stab.refl _ _ _) (fun _ hb => ?rlh14) ?rlk14; (case rlh14 => (have hrl := (hb.cell (cell_old hptr)).trans hptr; go_simp; try rfl)); go_simp)
            (refine Rely.Fx.runIn ?rlc15 rfl rfl rfl rfl (fun _ _ => ?rlh15) ?rlk15; (case rlh15 => (go_simp; try rfl)); go_simp)
            (refine Rely.Fx.runIn ?rlc16 rfl rfl rfl rfl (fun _ _ => ?rlh16) ?rlk16; (case rlh16 => (go_simp; try rfl)); go_simp)
            (refine Rely.Fx.loadIn ?rlc17 rfl (by kernel_rfl) rfl rfl rfl (Rely.Stab.refl _ _ _) (fun _ hb => ?rlh17) ?rlk17; (case rlh17 => (have hrl := (hb.cell (cell_old c6)).trans c6; go_simp; try rfl)); go_simp)
            (refine Rely.Fx.runIn ?rlc18 rfl rfl rfl rfl (fun _ _ => ?rlh18) ?rlk18; (case rlh18 => (go_simp; try rfl)); go_simp)
            (refine Rely.Fx.runIn ?rlc19 rfl rfl rfl rfl (fun _ _ => ?rlh19) ?rlk19; (case rlh19 => (go_simp; try rfl)); go_simp)
            (refine Rely.Fx.loadIn ?rlc20 rfl (by kernel_rfl) rfl rfl rfl (Rely.Stab.refl _ _ _) (fun _ hb => ?rlh20) ?rlk20; (case rlh20 => (have hrl := (hb.cell (cell_old ey)).trans ey; go_simp; try rfl)); go_simp)
            (refine Rely.Fx.loadIn ?rlc21 rfl (by kernel_rfl) rfl rfl rfl (Rely.Stab.refl _ _ _) (fun _ hb => ?rlh21) ?rlk21; (case rlh21 => (have hrl := (hb.cell (cell_old kS)).trans kS; go_simp; try rfl)); go_simp)
            (refine Rely.Fx.loadIn ?rlc22 rfl (by kernel_rfl) rfl rfl rfl (Rely.Stab.refl _ _ _) (fun _ hb => ?rlh22) ?rlk22; (case rlh22 => (have hrl := (hb.cell (cell_old i1)).trans i1; go_simp; try rfl)); go_simp)
            (refine Rely.Fx.runIn ?rlc23 rfl rfl rfl rfl (fun _ _ => ?rlh23) ?rlk23; (case rlh23 => (go_simp; try rfl)); go_simp)
            (refine Rely.Fx.runIn ?rlc24 rfl rfl rfl rfl (fun _ _ => ?rlh24) ?rlk24; (case rlh24 => (go_simp; try rfl)); go_simp)
            (refine Rely.Fx.loadIn ?rlc25 rfl (by kernel_rfl) rfl rfl rfl (Rely.Stab.refl _ _ _) (fun _ hb => ?rlh25) ?rlk25; (case rlh25 => (have hrl := (hb.cell (cell_old h2)).trans h2; go_simp; try rfl)); go_simp)
            (refine Rely.Fx.callIn (o := ?rlo26) (I (mul yj y.2)) 93 ?rlho26 ?rlhd26 (by simp) (by kernel_rfl) ?rlh26 ?rlk26; (case rlho26 => (simp only [List.getElem?_toArray, List.getElem?_cons_succ, List.getElem?_cons_zero]; rfl)); (case rlhd26 => rfl))
            · intro w' hb
              gi_wp2_with fail
              refine ⟨trivial, ?_⟩
              refine (CallsIn.inRound _ (callsIn_wide.2 (mul_any _ _ _))).mono ?_
              rintro r w'' ⟨rfl, rfl⟩
              gi_wp2
              exact ⟨_, rfl, rfl, hb, Rely.Stab.none _ _ _ _⟩
            go_simp
            (refine Rely.Fx.callIn (o := ?rlo27) (I (add acc (mul yj y.2))) 94 ?rlho27 ?rlhd27 (by simp) (by kernel_rfl) ?rlh27 ?rlk27; (case rlho27 => (simp only [List.getElem?_toArray, List.getElem?_cons_succ, List.getElem?_cons_zero]; rfl)); (case rlhd27 => rfl))
            · intro w' hb
              gi_wp2_with fail
              refine ⟨trivial, ?_⟩
              refine (CallsIn.inRound _ (callsIn_wide.2 (add_any _ _ _))).mono ?_
              rintro r w'' ⟨rfl, hb'⟩
              gi_wp2
              exact ⟨_, rfl, rfl, hb.trans (hb'.mono hb.size), Rely.Stab.none _ _ _ _⟩
            go_simp
            refine Rely.Fx.done ?_
            refine Rely.Lt.done ?_
            intro w6 hb6 _
            have HB6 : Hid (Below W'.heap.size W' w6) := Lib.hid (HB5.out.trans (hb6.mono HB5.out.size))
            have hz6 : W0.heap.size + 2 ≤ w5.heap.size := by have := HZ1.out; have := HB5.out.size; omega
            replace s1 := keep hb6 s1
            replace s2 := (hb6.frozen (p := ⟨w3.heap.size + 1, 0, none⟩) (by have := HZ1.out; dsimp only; omega)).trans s2
            replace i1 := keep hb6 i1
            replace i2 := (hb6.frozen (p := ⟨w3.heap.size + 1 + 1, 0, none⟩) (by have := HZ1.out; dsimp only; omega)).trans i2
            have i3 : (w6.setCell ⟨w3.heap.size + 1, 0, none⟩ (I (add acc (mul yj y.2)))).cell? ⟨w3.heap.size + 1 + 1, 0, none⟩ = some (I pre.length) := set_far (by dsimp only; omega) i1
            have i4 : (w6.setCell ⟨w3.heap.size + 1, 0, none⟩ (I (add acc (mul yj y.2)))).frozen? ⟨w3.heap.size + 1 + 1, 0, none⟩ = false := set_frozen i2
            clear hb6 hptr c6 ey kS h1 h2 hz6
            (refine Rely.Tl.lastIn (o := ?rlo28) ?rlho28 ?rlk28; (case rlho28 => (simp only [List.getElem?_toArray, List.getElem?_cons_succ, List.getElem?_cons_zero]; rfl)))
            gi_wp2
            refine ⟨rfl, ?_⟩
            gi_wp2
            refine HML.out.step HB6.out HNX.out HZ1.out.1 (by have := HZ1.out; have := HZ0.out; omega) (by have := HZ1.out; have := HZ0.out; omega) (by omega) HHLT.out ?_
            rw [List.length_append, List.length_singleton]; go_num
        · have hr1 : (y.1 != (j : Int)) = true := bne_iff_ne.2 hrow
          have HBAD : Hid (mkSum rows owners commits (accY rows owners (ps.map Pr.kp)) (ownIdx owners owners.length kp) ss 0 = none) := Lib.hid (by
            rw [HSUM.out, HDR.out, HDS.out, HYE.out]; unfold mkSum; rw [if_neg (fun h => hrow h.1)])
          clear hrow
          gi_wp2
          obtain ⟨r1, r2⟩ := HML.out.refuse (Below.refl _ _) HBAD.out HZ1.out.1
          exact ⟨r1, rfl, r2⟩
      · have hn : ((pre.length : Int) == (ss.length : Int)) = true := beq_iff_eq.2 (by omega)
        have HBAD : Hid (mkSum rows owners commits (accY rows owners (ps.map Pr.kp)) (ownIdx owners owners.length kp) ss 0 = none) := Lib.hid (by
          rw [HSUM.out, HDR.out, List.drop_of_length_le (show ss.length ≤ pre.length by omega)]; rfl)
        have t3 : (W'.setCell ⟨w.heap.size + 1 + 1, 0, none⟩ (I 0)).cell? ⟨w.heap.size + 1 + 1 + 1, 0, none⟩ = some (I 0) := set_far (by dsimp only; omega) e1
        have t4 : (W'.setCell ⟨w.heap.size + 1 + 1, 0, none⟩ (I 0)).frozen? ⟨w.heap.size + 1 + 1 + 1, 0, none⟩ = false := set_frozen e2
        gi_wp2
        obtain ⟨r1, r2⟩ := HML.out.refuse (Below.refl _ _) HBAD.out HZ1.out.1
        exact ⟨r1, rfl, r2⟩
    case stop =>
      rintro c W' hz ⟨rfl, h⟩ hD
      obtain ⟨z1, _⟩ := one_cell h.z
      obtain ⟨e1, _⟩ := one_cell h.e
      obtain ⟨a1, a2, a3, a4, a5⟩ := HZ0.out
      have HM : Hid (makeMain rows owners commits txt ps ss d f x = (0, 340)) := Lib.hid (by unfold makeMain; rw [HXK.out, h.bad])
      have hbel := HLOW.out _ h.same
      have HLB := Lib.hid hbel
      have n4 := putObj_cell (o := .deferred none) (l := W0.heap.size) (by dsimp only; omega) z1
      have n5 := putObj_cell (o := .deferred none) (l := W0.heap.size) (by dsimp only; omega) e1
      have hbf : Below w.heap.size w (W'.putObj W0.heap.size (.deferred none)) :=
        HLB.out.trans (((Same.refl (fun k => k < w.heap.size) _).putObj (.inl (by omega)) _).below (fun k hk => hk) HLB.out.size)
      clear hbel hit
      gi_wp2
      refine ⟨by simp, .inl ⟨_, _, rfl, run_takeDeferred hD, ?_⟩⟩
      refine ⟨_, results_cc rfl _ _ ⟨w.heap.size + 1 + 1, 0, none⟩ ⟨w.heap.size + 1 + 1 + 1, 0, none⟩ (I 0) (I 340) rfl rfl n4 n5, ?_, hbf⟩
      rw [HXE.out, HM.out]
    case done =>
      rintro W4 hz h hD
      have HML := Lib.hid h
      obtain ⟨hsame, ⟨acc, hsum, hS⟩, hib, hzb, heb, hle⟩ := h
      have HLW := Lib.hid (HLOW.out _ hsame)
      have HLT := Lib.hid (HLAT.out _ hsame)
      have HSUM := Lib.hid hS
      obtain ⟨a1, a2, a3, a4, a5⟩ := HZ0.out
      have kS : W4.cell? ⟨w.heap.size + 1, 0, none⟩ = some (.slice As ss.length cs) := hsame.cell ⟨by dsimp only; omega, by dsimp only; omega, by dsimp only; omega, by dsimp only; omega, by dsimp only; omega⟩ (keep HB20.out HKC.out.2.2.2)
      have hptr : W4.cell? ⟨w2.heap.size, 0, none⟩ = some (.pointer (some ⟨g, 0, none⟩)) := hsame.cell ⟨by dsimp only; omega, by dsimp only; omega, by dsimp only; omega, by dsimp only; omega, by dsimp only; omega⟩ HPT.out
      have hpr : W4.heap[w3.heap.size]? = some (.cells #[I x.kp, I x.no, I x.d, I x.e] 85 (0, 0)) := (hsame.block _ (by omega) ⟨by omega, by omega, by omega, by omega, by omega⟩).trans HPR.out
      have p0 : W4.cell? ⟨w3.heap.size, 0, none⟩ = some (I x.kp) := by rw [cell_of_row W4 _ 0 _ _ (0, 0) hpr]; rfl
      have p1 : W4.cell? ⟨w3.heap.size, 1, none⟩ = some (I x.no) := by rw [cell_of_row W4 _ 1 _ _ (0, 0) hpr]; rfl
      have p2 : W4.cell? ⟨w3.heap.size, 2, none⟩ = some (I x.d) := by rw [cell_of_row W4 _ 2 _ _ (0, 0) hpr]; rfl
      have p3 : W4.cell? ⟨w3.heap.size, 3, none⟩ = some (I x.e) := by rw [cell_of_row W4 _ 3 _ _ (0, 0) hpr]; rfl
      obtain ⟨i1, i2⟩ := one_cell hib
      obtain ⟨z1, z2⟩ := one_cell hzb
      obtain ⟨e1, e2⟩ := one_cell heb
      obtain ⟨s1, s2⟩ := one_cell hsum
      have HZ1 : Hid (w.heap.size + 4 ≤ W0.heap.size ∧ w3.heap.size + 5 = W0.heap.size ∧ W0.heap.size + 2 ≤ W4.heap.size) := Lib.hid ⟨by omega, a1.symm, hz⟩
      have HFIN : Hid (∀ (B C : World), Below W4.heap.size W4 B → Same (fun k => k ≠ w.heap.size + 1 + 1 ∧ k ≠ w.heap.size + 1 + 1 + 1) B C → C.heap[W0.heap.size]? = some (.deferred (some [])) ∧ Below w.heap.size w (C.putObj W0.heap.size (.deferred none))) := Lib.hid (fun B C hb hs => by
        have hz1 := HZ1.out
        have hb2 := hb.size
        have hl : Below w.heap.size w C := (HLW.out.trans (hb.mono HLW.out.size)).trans (hs.below (fun k hk => ⟨by omega, by omega⟩) (by have := HLW.out.size; omega))
        exact ⟨(hs.block _ (by omega) ⟨by omega, by omega⟩).trans ((hb.block _ (by omega)).trans hD), hl.trans (((Same.refl (fun k => k < w.heap.size) _).putObj (.inl (by omega)) _).below (fun k hk => hk) hl.size)⟩)
      clear hsame hsum hS hib hzb heb a1 a2 a3 a4 a5 hit hz hD hpr
      generalize hnn : (ownIdx owners owners.length kp).length = nn at *
      have HNN := Lib.hid hnn
      clear hnn
      by_cases hlt : nn < ss.length
      · have hlt2 : (nn : Int) < (ss.length : Int) := by omega
        have HM : Hid (makeMain rows owners commits txt ps ss d f x = (0, 340)) := Lib.hid (by
          unfold makeMain; rw [HXK.out, HSUM.out, List.drop_of_length_le (by rw [HNN.out]; exact Nat.le_refl _), List.drop_eq_getElem_cons hlt]; rfl)
        have t3 : (W4.setCell ⟨w.heap.size + 1 + 1, 0, none⟩ (I 0)).cell? ⟨w.heap.size + 1 + 1 + 1, 0, none⟩ = some (I 0) := set_far (by dsimp only; omega) e1
        have t4 : (W4.setCell ⟨w.heap.size + 1 + 1, 0, none⟩ (I 0)).frozen? ⟨w.heap.size + 1 + 1 + 1, 0, none⟩ = false := set_frozen e2
        have hzz := set_far (a := ⟨w.heap.size + 1 + 1 + 1, 0, none⟩) (v := I 340) (by dsimp only; omega) (set_same (v := I 0) z1)
        have hee := set_same (v := I 340) t3
        have HZZ := Lib.hid hzz
        have HEE := Lib.hid hee
        clear hzz hee hle
        gi_wp2
        obtain ⟨hD', hbf⟩ := HFIN.out W4 ((W4.setCell ⟨w.heap.size + 1 + 1, 0, none⟩ (I 0)).setCell ⟨w.heap.size + 1 + 1 + 1, 0, none⟩ (I 340)) (Below.refl _ _) (((Same.refl _ _).setCell (.inl fun h => h.1 rfl) _).setCell (.inl fun h => h.2 rfl) _)
        have n4 := putObj_cell (o := .deferred none) (l := W0.heap.size) (by have := HZ1.out; dsimp only; omega) HZZ.out
        have n5 := putObj_cell (o := .deferred none) (l := W0.heap.size) (by have := HZ1.out; dsimp only; omega) HEE.out
        refine ⟨by simp, .inl ⟨_, _, rfl, run_takeDeferred hD', ?_⟩⟩
        refine ⟨_, results_cc rfl _ _ ⟨w.heap.size + 1 + 1, 0, none⟩ ⟨w.heap.size + 1 + 1 + 1, 0, none⟩ (I 0) (I 340) rfl rfl n4 n5, ?_, hbf⟩
        rw [HXE.out, HM.out]
      · obtain rfl : nn = ss.length := by omega
        have hlt2 : ¬ (ss.length : Int) < (ss.length : Int) := by omega
        have HMK : Hid (mkSum rows owners commits (accY rows owners (ps.map Pr.kp)) (ownIdx owners owners.length kp) ss 0 = some acc) := Lib.hid (by
          rw [HSUM.out, List.drop_of_length_le (by rw [HNN.out]; exact Nat.le_refl _), List.drop_of_length_le (Nat.le_refl _)]; rfl)
        by_cases hd : powP 4 d = x.d
        · have hd1 : (powP 4 d != x.d) = false := by rw [hd]; simp
          have HD := Lib.hid hd
          clear hd
          by_cases hf : powP 4 f = x.e
          · have hf1 : (powP 4 f != x.e) = false := by rw [hf]; simp
            have HF := Lib.hid hf
            clear hf
            gi_wp2
            refine Rely.regionBIn _ _ _ _ (by kernel_rfl) [0,1,2,3,4,5,6,7,8,9,10,11] [] [12] (fun _ _ _ => True) (fun _ => True) (by kernel_rfl) (fun _ _ => trivial) ?_
            (refine Rely.Fx.runIn ?rlc29 rfl rfl rfl rfl (fun _ _ => ?rlh29) ?rlk29; (case rlh29 => (go_simp; try rfl)); go_simp)
            (refine Rely.Fx.callIn (o := ?rlo30) (I (powP 4 d)) 104 ?rlho30 ?rlhd30 (by simp) (by kernel_rfl) ?rlh30 ?rlk30; (case rlho30 => (simp only [List.getElem?_toArray, List.getElem?_cons_succ, List.getElem?_cons_zero]; rfl)); (case rlhd30 => rfl))
            · intro w' hb
              gi_wp2_with fail
              refine ⟨trivial, ?_⟩
              refine (callsIn_wide.2 (partial_power_any _ _ _)).mono ?_
              rintro r w'' ⟨rfl, hb'⟩
              gi_wp2
              exact ⟨_, rfl, rfl, hb.trans (hb'.mono hb.size), Rely.Stab.none _ _ _ _⟩
            go_simp
            (refine Rely.Fx.runIn ?rlc31 rfl rfl rfl rfl (fun _ _ => ?rlh31) ?rlk31; (case rlh31 => (go_simp; try rfl)); go_simp)
            (refine Rely.Fx.loadIn ?rlc32 rfl (by kernel_rfl) rfl rfl rfl (Rely.Stab.refl _ _ _) (fun _ hb => ?rlh32) ?rlk32; (case rlh32 => (have hrl := (hb.cell (cell_old p2)).trans p2; go_simp; try rfl)); go_simp)
            (refine Rely.Fx.runIn ?rlc33 rfl rfl rfl rfl (fun _ _ => ?rlh33) ?rlk33; (case rlh33 => (go_simp; try rfl)); go_simp)
            (refine Rely.Fx.runIn ?rlc34 rfl rfl rfl rfl (fun _ _ => ?rlh34) ?rlk34; (case rlh34 => (go_simp; try rfl)); go_simp)
            (refine Rely.Fx.runIn ?rlc35 rfl rfl rfl rfl (fun _ _ => ?rlh35) ?rlk35; (case rlh35 => (go_simp; try rfl)); go_simp)
            (refine Rely.Fx.callIn (o := ?rlo36) (I (powP 4 f)) 110 ?rlho36 ?rlhd36 (by simp) (by kernel_rfl) ?rlh36 ?rlk36; (case rlho36 => (simp only [List.getElem?_toArray, List.getElem?_cons_succ, List.getElem?_cons_zero]; rfl)); (case rlhd36 => rfl))
            · intro w' hb
              gi_wp2_with fail
              refine ⟨trivial, ?_⟩
              refine (callsIn_wide.2 (partial_power_any _ _ _)).mono ?_
              rintro r w'' ⟨rfl, hb'⟩
              gi_wp2
              exact ⟨_, rfl, rfl, hb.trans (hb'.mono hb.size), Rely.Stab.none _ _ _ _⟩
            go_simp
            (refine Rely.Fx.runIn ?rlc37 rfl rfl rfl rfl (fun _ _ => ?rlh37) ?rlk37; (case rlh37 => (go_simp; try rfl)); go_simp)
            (refine Rely.Fx.loadIn ?rlc38 rfl (by kernel_rfl) rfl rfl rfl (Rely.Stab.refl _ _ _) (fun _ hb => ?rlh38) ?rlk38; (case rlh38 => (have hrl := (hb.cell (cell_old p3)).trans p3; go_simp; try rfl)); go_simp)
            (refine Rely.Fx.runIn ?rlc39 rfl rfl rfl rfl (fun _ _ => ?rlh39) ?rlk39; (case rlh39 => (go_simp; try rfl)); go_simp)
            (refine Rely.Fx.runIn ?rlc40 rfl rfl rfl rfl (fun _ _ => ?rlh40) ?rlk40; (case rlh40 => (go_simp; try rfl)); go_simp)
            refine Rely.Fx.done ?_
            refine Rely.Lt.done ?_
            intro w5 hb5 _
            have HB5 := Lib.hid hb5
            have hz5 : W0.heap.size + 2 ≤ w5.heap.size := by have := HZ1.out; have := hb5.size; omega
            have hz6 := HZ1.out
            have HZ5 := Lib.hid hz5
            replace z1 := keep hb5 z1
            replace z2 := (hb5.frozen (p := ⟨w.heap.size + 1 + 1, 0, none⟩) (by dsimp only; omega)).trans z2
            replace e1 := keep hb5 e1
            replace e2 := (hb5.frozen (p := ⟨w.heap.size + 1 + 1 + 1, 0, none⟩) (by dsimp only; omega)).trans e2
            replace s1 := keep hb5 s1
            replace hptr := keep hb5 hptr
            replace p0 := keep hb5 p0
            replace p1 := keep hb5 p1
            replace p2 := keep hb5 p2
            replace p3 := keep hb5 p3
            clear hb5 hz5 hz6
            (refine Rely.Tl.lastIn (o := ?rlo41) ?rlho41 ?rlk41; (case rlho41 => (simp only [List.getElem?_toArray, List.getElem?_cons_succ, List.getElem?_cons_zero]; rfl)))
            gi_wp2
            refine ⟨rfl, ?_⟩
            have c12 : w5.cell? ⟨g, 12, none⟩ = some (I (chN (commits.headD 0) txt ps)) := by rw [cell_of_row _ g 12 _ _ (0, 0) (HLT.out.1.below HB5.out)]; rfl
            have HWR : Hid (WorkR w5 g (commits.headD 0) txt (allV ps)) := Lib.hid (HLT.out.2.1.below HB5.out)
            have HG5 : Hid (Glob w5) := Lib.hid ((HG0.out.below HLW.out).below HB5.out)
            obtain ⟨c0, hc0⟩ : ∃ c0, commits.headD 0 = c0 := ⟨_, rfl⟩
            rw [hc0] at HWR c12
            obtain ⟨ch, hch⟩ : ∃ ch, chN c0 txt ps = ch := ⟨_, rfl⟩
            rw [hch] at c12
            obtain ⟨b, hb⟩ : ∃ b : Int, (bindN c0 txt (allV ps) x.kp : Int) = b := ⟨_, rfl⟩
            have HBN := Lib.hid hb
            have HM : Hid (makeMain rows owners commits txt ps ss d f x = (add (add d (mul f b)) (mul ch acc), 0)) := Lib.hid (by
              unfold makeMain; rw [HXK.out, HMK.out]; dsimp only; rw [if_pos ⟨HD.out, HF.out⟩, hc0, hch, ← hb, HXK.out]; rfl)
            clear hc0 hch hb
            gi_wp2
            refine Rely.regionBIn _ _ _ _ (by kernel_rfl) [0,1,2,3,4,5,6,7,8,9,10,11,12,13] [] [14,15] (fun _ _ _ => True) (fun _ => True) (by kernel_rfl) (fun _ _ => trivial) ?_
            (refine Rely.Fx.runIn ?rlc42 rfl rfl rfl rfl (fun _ _ => ?rlh42) ?rlk42; (case rlh42 => (go_simp; try rfl)); go_simp)
            (refine Rely.Fx.runIn ?rlc43 rfl rfl rfl rfl (fun _ _ => ?rlh43) ?rlk43; (case rlh43 => (go_simp; try rfl)); go_simp)
            (refine Rely.Fx.loadIn ?rlc44 rfl (by kernel_rfl) rfl rfl rfl (Rely.Stab.refl _ _ _) (fun _ hb => ?rlh44) ?rlk44; (case rlh44 => (have hrl := (hb.cell (cell_old hptr)).trans hptr; go_simp; try rfl)); go_simp)
            (refine Rely.Fx.loadIn ?rlcx rfl (by kernel_rfl) rfl rfl rfl (Rely.Stab.refl _ _ _) (fun _ hb => ?rlhx) ?rlkx; (case rlhx => (have hr0 := (hb.cell (cell_old p0)).trans p0; have hr1 := (hb.cell (cell_old p1)).trans p1; have hr2 := (hb.cell (cell_old p2)).trans p2; have hr3 := (hb.cell (cell_old p3)).trans p3; go_simp; try rfl)); go_simp)
            (refine Rely.Fx.callIn (o := ?rlo45) (I b) 119 ?rlho45 ?rlhd45 (by simp) (by kernel_rfl) ?rlh45 ?rlk45; (case rlho45 => (simp only [List.getElem?_toArray, List.getElem?_cons_succ, List.getElem?_cons_zero]; rfl)); (case rlhd45 => rfl))
            · intro w' hb
              gi_wp2_with fail
              refine ⟨trivial, ?_⟩
              refine (callsIn_wide.2 (bind_any g c0 txt (allV ps) x.kp x.no x.d x.e _ (HWR.out.below hb) (HG5.out.below hb) HKX.out)).mono ?_
              rintro r w'' ⟨rfl, hb'⟩
              rw [HBN.out]
              gi_wp2
              exact ⟨_, rfl, rfl, hb.trans (hb'.mono hb.size), Rely.Stab.none _ _ _ _⟩
            go_simp
            (refine Rely.Fx.callIn (o := ?rlo46) (I (mul f b)) 120 ?rlho46 ?rlhd46 (by simp) (by kernel_rfl) ?rlh46 ?rlk46; (case rlho46 => (simp only [List.getElem?_toArray, List.getElem?_cons_succ, List.getElem?_cons_zero]; rfl)); (case rlhd46 => rfl))
            · intro w' hb
              gi_wp2_with fail
              refine ⟨trivial, ?_⟩
              refine (callsIn_wide.2 (mul_any _ _ _)).mono ?_
              rintro r w'' ⟨rfl, rfl⟩
              gi_wp2
              exact ⟨_, rfl, rfl, hb, Rely.Stab.none _ _ _ _⟩
            go_simp
            (refine Rely.Fx.callIn (o := ?rlo47) (I (add d (mul f b))) 121 ?rlho47 ?rlhd47 (by simp) (by kernel_rfl) ?rlh47 ?rlk47; (case rlho47 => (simp only [List.getElem?_toArray, List.getElem?_cons_succ, List.getElem?_cons_zero]; rfl)); (case rlhd47 => rfl))
            · intro w' hb
              gi_wp2_with fail
              refine ⟨trivial, ?_⟩
              refine (callsIn_wide.2 (add_any _ _ _)).mono ?_
              rintro r w'' ⟨rfl, hb'⟩
              gi_wp2
              exact ⟨_, rfl, rfl, hb.trans (hb'.mono hb.size), Rely.Stab.none _ _ _ _⟩
            go_simp
            (refine Rely.Fx.loadIn ?rlc48 rfl (by kernel_rfl) rfl rfl rfl (Rely.Stab.refl _ _ _) (fun _ hb => ?rlh48) ?rlk48; (case rlh48 => (have hrl := (hb.cell (cell_old hptr)).trans hptr; go_simp; try rfl)); go_simp)
            (refine Rely.Fx.runIn ?rlc49 rfl rfl rfl rfl (fun _ _ => ?rlh49) ?rlk49; (case rlh49 => (go_simp; try rfl)); go_simp)
            (refine Rely.Fx.runIn ?rlc50 rfl rfl rfl rfl (fun _ _ => ?rlh50) ?rlk50; (case rlh50 => (go_simp; try rfl)); go_simp)
            (refine Rely.Fx.loadIn ?rlc51 rfl (by kernel_rfl) rfl rfl rfl (Rely.Stab.refl _ _ _) (fun _ hb => ?rlh51) ?rlk51; (case rlh51 => (have hrl := (hb.cell (cell_old c12)).trans c12; go_simp; try rfl)); go_simp)
            (refine Rely.Fx.loadIn ?rlc52 rfl (by kernel_rfl) rfl rfl rfl (Rely.Stab.refl _ _ _) (fun _ hb => ?rlh52) ?rlk52; (case rlh52 => (have hrl := (hb.cell (cell_old s1)).trans s1; go_simp; try rfl)); go_simp)
            (refine Rely.Fx.callIn (o := ?rlo53) (I (mul ch acc)) 127 ?rlho53 ?rlhd53 (by simp) (by kernel_rfl) ?rlh53 ?rlk53; (case rlho53 => (simp only [List.getElem?_toArray, List.getElem?_cons_succ, List.getElem?_cons_zero]; rfl)); (case rlhd53 => rfl))
            · intro w' hb
              gi_wp2_with fail
              refine ⟨trivial, ?_⟩
              refine (callsIn_wide.2 (mul_any _ _ _)).mono ?_
              rintro r w'' ⟨rfl, rfl⟩
              gi_wp2
              exact ⟨_, rfl, rfl, hb, Rely.Stab.none _ _ _ _⟩
            go_simp
            (refine Rely.Fx.callIn (o := ?rlo54) (I (add (add d (mul f b)) (mul ch acc))) 128 ?rlho54 ?rlhd54 (by simp) (by kernel_rfl) ?rlh54 ?rlk54; (case rlho54 => (simp only [List.getElem?_toArray, List.getElem?_cons_succ, List.getElem?_cons_zero]; rfl)); (case rlhd54 => rfl))
            · intro w' hb
              gi_wp2_with fail
              refine ⟨trivial, ?_⟩
              refine (callsIn_wide.2 (add_any _ _ _)).mono ?_
              rintro r w'' ⟨rfl, hb'⟩
              gi_wp2
              exact ⟨_, rfl, rfl, hb.trans (hb'.mono hb.size), Rely.Stab.none _ _ _ _⟩
            go_simp
            refine Rely.Fx.done ?_
            refine Rely.Lt.done ?_
            intro w6 hb6 _
            have HB6 : Hid (Below W4.heap.size W4 w6) := Lib.hid (HB5.out.trans (hb6.mono HB5.out.size))
            have hz6 := HZ1.out
            have hz7 := HZ5.out
            replace z1 := keep hb6 z1
            replace z2 := (hb6.frozen (p := ⟨w.heap.size + 1 + 1, 0, none⟩) (by dsimp only; omega)).trans z2
            replace e1 := keep hb6 e1
            replace e2 := (hb6.frozen (p := ⟨w.heap.size + 1 + 1 + 1, 0, none⟩) (by dsimp only; omega)).trans e2
            clear hb6 hptr p0 p1 p2 p3 c12 s1 s2 i1 i2 kS hz6 hz7
            obtain ⟨rz, hrz⟩ : ∃ rz, add (add d (mul f b)) (mul ch acc) = rz := ⟨_, rfl⟩
            rw [hrz]
            have HRZ := Lib.hid hrz
            have t3 : (w6.setCell ⟨w.heap.size + 1 + 1, 0, none⟩ (I rz)).cell? ⟨w.heap.size + 1 + 1 + 1, 0, none⟩ = some (I 0) := set_far (by dsimp only; omega) e1
            have t4 : (w6.setCell ⟨w.heap.size + 1 + 1, 0, none⟩ (I rz)).frozen? ⟨w.heap.size + 1 + 1 + 1, 0, none⟩ = false := set_frozen e2
            have HZZ := Lib.hid (set_far (a := ⟨w.heap.size + 1 + 1 + 1, 0, none⟩) (v := I 0) (by dsimp only; omega) (set_same (v := I rz) z1))
            have HEE := Lib.hid (set_same (v := I 0) t3)
            clear hrz
            (refine Rely.Tl.stepIn (o := ?rlo55) ?rlho55 ?rlk55; (case rlho55 => (simp only [List.getElem?_toArray, List.getElem?_cons_succ, List.getElem?_cons_zero]; rfl)))
            gi_wp2
            refine ⟨rfl, ?_⟩
            (refine Rely.Tl.lastIn (o := ?rlo56) ?rlho56 ?rlk56; (case rlho56 => (simp only [List.getElem?_toArray, List.getElem?_cons_succ, List.getElem?_cons_zero]; rfl)))
            gi_wp2
            refine ⟨rfl, ?_⟩
            gi_wp2
            obtain ⟨hD', hbf⟩ := HFIN.out w6 ((w6.setCell ⟨w.heap.size + 1 + 1, 0, none⟩ (I rz)).setCell ⟨w.heap.size + 1 + 1 + 1, 0, none⟩ (I 0)) HB6.out (((Same.refl _ _).setCell (.inl fun h => h.1 rfl) _).setCell (.inl fun h => h.2 rfl) _)
            have n4 := putObj_cell (o := .deferred none) (l := W0.heap.size) (by have := HZ1.out; dsimp only; omega) HZZ.out
            have n5 := putObj_cell (o := .deferred none) (l := W0.heap.size) (by have := HZ1.out; dsimp only; omega) HEE.out
            refine ⟨by simp, .inl ⟨_, _, rfl, run_takeDeferred hD', ?_⟩⟩
            refine ⟨_, results_cc rfl _ _ ⟨w.heap.size + 1 + 1, 0, none⟩ ⟨w.heap.size + 1 + 1 + 1, 0, none⟩ (I rz) (I 0) rfl rfl n4 n5, ?_, hbf⟩
            rw [HXE.out, HM.out, HRZ.out]
          · have hf1 : (powP 4 f != x.e) = true := bne_iff_ne.2 hf
            have HNE := Lib.hid hf
            clear hf
            gi_wp2
            refine Rely.regionBIn _ _ _ _ (by kernel_rfl) [0,1,2,3,4,5,6,7,8,9,10,11] [] [12] (fun _ _ _ => True) (fun _ => True) (by kernel_rfl) (fun _ _ => trivial) ?_
            (refine Rely.Fx.runIn ?rlc57 rfl rfl rfl rfl (fun _ _ => ?rlh57) ?rlk57; (case rlh57 => (go_simp; try rfl)); go_simp)
            (refine Rely.Fx.callIn (o := ?rlo58) (I (powP 4 d)) 104 ?rlho58 ?rlhd58 (by simp) (by kernel_rfl) ?rlh58 ?rlk58; (case rlho58 => (simp only [List.getElem?_toArray, List.getElem?_cons_succ, List.getElem?_cons_zero]; rfl)); (case rlhd58 => rfl))
            · intro w' hb
              gi_wp2_with fail
              refine ⟨trivial, ?_⟩
              refine (callsIn_wide.2 (partial_power_any _ _ _)).mono ?_
              rintro r w'' ⟨rfl, hb'⟩
              gi_wp2
              exact ⟨_, rfl, rfl, hb.trans (hb'.mono hb.size), Rely.Stab.none _ _ _ _⟩
            go_simp
            (refine Rely.Fx.runIn ?rlc59 rfl rfl rfl rfl (fun _ _ => ?rlh59) ?rlk59; (case rlh59 => (go_simp; try rfl)); go_simp)
            (refine Rely.Fx.loadIn ?rlc60 rfl (by kernel_rfl) rfl rfl rfl (Rely.Stab.refl _ _ _) (fun _ hb => ?rlh60) ?rlk60; (case rlh60 => (have hrl := (hb.cell (cell_old p2)).trans p2; go_simp; try rfl)); go_simp)
            (refine Rely.Fx.runIn ?rlc61 rfl rfl rfl rfl (fun _ _ => ?rlh61) ?rlk61; (case rlh61 => (go_simp; try rfl)); go_simp)
            (refine Rely.Fx.runIn ?rlc62 rfl rfl rfl rfl (fun _ _ => ?rlh62) ?rlk62; (case rlh62 => (go_simp; try rfl)); go_simp)
            (refine Rely.Fx.runIn ?rlc63 rfl rfl rfl rfl (fun _ _ => ?rlh63) ?rlk63; (case rlh63 => (go_simp; try rfl)); go_simp)
            (refine Rely.Fx.callIn (o := ?rlo64) (I (powP 4 f)) 110 ?rlho64 ?rlhd64 (by simp) (by kernel_rfl) ?rlh64 ?rlk64; (case rlho64 => (simp only [List.getElem?_toArray, List.getElem?_cons_succ, List.getElem?_cons_zero]; rfl)); (case rlhd64 => rfl))
            · intro w' hb
              gi_wp2_with fail
              refine ⟨trivial, ?_⟩
              refine (callsIn_wide.2 (partial_power_any _ _ _)).mono ?_
              rintro r w'' ⟨rfl, hb'⟩
              gi_wp2
              exact ⟨_, rfl, rfl, hb.trans (hb'.mono hb.size), Rely.Stab.none _ _ _ _⟩
            go_simp
            (refine Rely.Fx.runIn ?rlc65 rfl rfl rfl rfl (fun _ _ => ?rlh65) ?rlk65; (case rlh65 => (go_simp; try rfl)); go_simp)
            (refine Rely.Fx.loadIn ?rlc66 rfl (by kernel_rfl) rfl rfl rfl (Rely.Stab.refl _ _ _) (fun _ hb => ?rlh66) ?rlk66; (case rlh66 => (have hrl := (hb.cell (cell_old p3)).trans p3; go_simp; try rfl)); go_simp)
            (refine Rely.Fx.runIn ?rlc67 rfl rfl rfl rfl (fun _ _ => ?rlh67) ?rlk67; (case rlh67 => (go_simp; try rfl)); go_simp)
            (refine Rely.Fx.runIn ?rlc68 rfl rfl rfl rfl (fun _ _ => ?rlh68) ?rlk68; (case rlh68 => (go_simp; try rfl)); go_simp)
            refine Rely.Fx.done ?_
            refine Rely.Lt.done ?_
            intro w5 hb5 _
            have HB5 := Lib.hid hb5
            have hz5 : W0.heap.size + 2 ≤ w5.heap.size := by have := HZ1.out; have := hb5.size; omega
            have hz6 := HZ1.out
            have HZ5 := Lib.hid hz5
            replace z1 := keep hb5 z1
            replace z2 := (hb5.frozen (p := ⟨w.heap.size + 1 + 1, 0, none⟩) (by dsimp only; omega)).trans z2
            replace e1 := keep hb5 e1
            replace e2 := (hb5.frozen (p := ⟨w.heap.size + 1 + 1 + 1, 0, none⟩) (by dsimp only; omega)).trans e2
            replace s1 := keep hb5 s1
            replace hptr := keep hb5 hptr
            replace p0 := keep hb5 p0
            replace p1 := keep hb5 p1
            replace p2 := keep hb5 p2
            replace p3 := keep hb5 p3
            clear hb5 hz5 hz6
            (refine Rely.Tl.lastIn (o := ?rlo69) ?rlho69 ?rlk69; (case rlho69 => (simp only [List.getElem?_toArray, List.getElem?_cons_succ, List.getElem?_cons_zero]; rfl)))
            gi_wp2
            refine ⟨rfl, ?_⟩
            have HM : Hid (makeMain rows owners commits txt ps ss d f x = (0, 420)) := Lib.hid (by
              unfold makeMain; rw [HXK.out, HMK.out]; dsimp only; rw [if_neg (fun h => absurd h.2 HNE.out)])
            have t3 : (w5.setCell ⟨w.heap.size + 1 + 1, 0, none⟩ (I 0)).cell? ⟨w.heap.size + 1 + 1 + 1, 0, none⟩ = some (I 0) := set_far (by dsimp only; omega) e1
            have t4 : (w5.setCell ⟨w.heap.size + 1 + 1, 0, none⟩ (I 0)).frozen? ⟨w.heap.size + 1 + 1 + 1, 0, none⟩ = false := set_frozen e2
            have HZZ := Lib.hid (set_far (a := ⟨w.heap.size + 1 + 1 + 1, 0, none⟩) (v := I 420) (by dsimp only; omega) (set_same (v := I 0) z1))
            have HEE := Lib.hid (set_same (v := I 420) t3)
            gi_wp2
            obtain ⟨hD', hbf⟩ := HFIN.out w5 ((w5.setCell ⟨w.heap.size + 1 + 1, 0, none⟩ (I 0)).setCell ⟨w.heap.size + 1 + 1 + 1, 0, none⟩ (I 420)) HB5.out (((Same.refl _ _).setCell (.inl fun h => h.1 rfl) _).setCell (.inl fun h => h.2 rfl) _)
            have n4 := putObj_cell (o := .deferred none) (l := W0.heap.size) (by have := HZ1.out; dsimp only; omega) HZZ.out
            have n5 := putObj_cell (o := .deferred none) (l := W0.heap.size) (by have := HZ1.out; dsimp only; omega) HEE.out
            refine ⟨by simp, .inl ⟨_, _, rfl, run_takeDeferred hD', ?_⟩⟩
            refine ⟨_, results_cc rfl _ _ ⟨w.heap.size + 1 + 1, 0, none⟩ ⟨w.heap.size + 1 + 1 + 1, 0, none⟩ (I 0) (I 420) rfl rfl n4 n5, ?_, hbf⟩
            rw [HXE.out, HM.out]
        · have hd1 : (powP 4 d != x.d) = true := bne_iff_ne.2 hd
          have HNE := Lib.hid hd
          clear hd
          gi_wp2
          refine Rely.regionBIn _ _ _ _ (by kernel_rfl) [0,1,2,3,4,5,6,7,8,9,10,11] [] [12] (fun _ _ _ => True) (fun _ => True) (by kernel_rfl) (fun _ _ => trivial) ?_
          (refine Rely.Fx.runIn ?rlc70 rfl rfl rfl rfl (fun _ _ => ?rlh70) ?rlk70; (case rlh70 => (go_simp; try rfl)); go_simp)
          (refine Rely.Fx.callIn (o := ?rlo71) (I (powP 4 d)) 104 ?rlho71 ?rlhd71 (by simp) (by kernel_rfl) ?rlh71 ?rlk71; (case rlho71 => (simp only [List.getElem?_toArray, List.getElem?_cons_succ, List.getElem?_cons_zero]; rfl)); (case rlhd71 => rfl))
          · intro w' hb
            gi_wp2_with fail
            refine ⟨trivial, ?_⟩
            refine (callsIn_wide.2 (partial_power_any _ _ _)).mono ?_
            rintro r w'' ⟨rfl, hb'⟩
            gi_wp2
            exact ⟨_, rfl, rfl, hb.trans (hb'.mono hb.size), Rely.Stab.none _ _ _ _⟩
          go_simp
          (refine Rely.Fx.runIn ?rlc72 rfl rfl rfl rfl (fun _ _ => ?rlh72) ?rlk72; (case rlh72 => (go_simp; try rfl)); go_simp)
          (refine Rely.Fx.loadIn ?rlc73 rfl (by kernel_rfl) rfl rfl rfl (Rely.Stab.refl _ _ _) (fun _ hb => ?rlh73) ?rlk73; (case rlh73 => (have hrl := (hb.cell (cell_old p2)).trans p2; go_simp; try rfl)); go_simp)
          (refine Rely.Fx.runIn ?rlc74 rfl rfl rfl rfl (fun _ _ => ?rlh74) ?rlk74; (case rlh74 => (go_simp; try rfl)); go_simp)
          (refine Rely.Fx.runIn ?rlc75 rfl rfl rfl rfl (fun _ _ => ?rlh75) ?rlk75; (case rlh75 => (go_simp; try rfl)); go_simp)
          (refine Rely.Fx.skipIn rfl rfl (fun _ => trivial) ?rlk76; go_simp)
          (refine Rely.Fx.skipIn rfl rfl (fun _ => trivial) ?rlk77; go_simp)
          (refine Rely.Fx.skipIn rfl rfl (fun _ => trivial) ?rlk78; go_simp)
          (refine Rely.Fx.skipIn rfl rfl (fun _ => trivial) ?rlk79; go_simp)
          (refine Rely.Fx.skipIn rfl rfl (fun _ => trivial) ?rlk80; go_simp)
          (refine Rely.Fx.runIn ?rlc81 rfl rfl rfl rfl (fun _ _ => ?rlh81) ?rlk81; (case rlh81 => (go_simp; try rfl)); go_simp)
          refine Rely.Fx.done ?_
          refine Rely.Lt.done ?_
          intro w5 hb5 _
          have HB5 := Lib.hid hb5
          have hz5 : W0.heap.size + 2 ≤ w5.heap.size := by have := HZ1.out; have := hb5.size; omega
          have hz6 := HZ1.out
          have HZ5 := Lib.hid hz5
          replace z1 := keep hb5 z1
          replace z2 := (hb5.frozen (p := ⟨w.heap.size + 1 + 1, 0, none⟩) (by dsimp only; omega)).trans z2
          replace e1 := keep hb5 e1
          replace e2 := (hb5.frozen (p := ⟨w.heap.size + 1 + 1 + 1, 0, none⟩) (by dsimp only; omega)).trans e2
          replace s1 := keep hb5 s1
          replace hptr := keep hb5 hptr
          replace p0 := keep hb5 p0
          replace p1 := keep hb5 p1
          replace p2 := keep hb5 p2
          replace p3 := keep hb5 p3
          clear hb5 hz5 hz6
          (refine Rely.Tl.lastIn (o := ?rlo82) ?rlho82 ?rlk82; (case rlho82 => (simp only [List.getElem?_toArray, List.getElem?_cons_succ, List.getElem?_cons_zero]; rfl)))
          gi_wp2
          refine ⟨rfl, ?_⟩
          have HM : Hid (makeMain rows owners commits txt ps ss d f x = (0, 420)) := Lib.hid (by
            unfold makeMain; rw [HXK.out, HMK.out]; dsimp only; rw [if_neg (fun h => absurd h.1 HNE.out)])
          have t3 : (w5.setCell ⟨w.heap.size + 1 + 1, 0, none⟩ (I 0)).cell? ⟨w.heap.size + 1 + 1 + 1, 0, none⟩ = some (I 0) := set_far (by dsimp only; omega) e1
          have t4 : (w5.setCell ⟨w.heap.size + 1 + 1, 0, none⟩ (I 0)).frozen? ⟨w.heap.size + 1 + 1 + 1, 0, none⟩ = false := set_frozen e2
          have HZZ := Lib.hid (set_far (a := ⟨w.heap.size + 1 + 1 + 1, 0, none⟩) (v := I 420) (by dsimp only; omega) (set_same (v := I 0) z1))
          have HEE := Lib.hid (set_same (v := I 420) t3)
          gi_wp2
          obtain ⟨hD', hbf⟩ := HFIN.out w5 ((w5.setCell ⟨w.heap.size + 1 + 1, 0, none⟩ (I 0)).setCell ⟨w.heap.size + 1 + 1 + 1, 0, none⟩ (I 420)) HB5.out (((Same.refl _ _).setCell (.inl fun h => h.1 rfl) _).setCell (.inl fun h => h.2 rfl) _)
          have n4 := putObj_cell (o := .deferred none) (l := W0.heap.size) (by have := HZ1.out; dsimp only; omega) HZZ.out
          have n5 := putObj_cell (o := .deferred none) (l := W0.heap.size) (by have := HZ1.out; dsimp only; omega) HEE.out
          refine ⟨by simp, .inl ⟨_, _, rfl, run_takeDeferred hD', ?_⟩⟩
          refine ⟨_, results_cc rfl _ _ ⟨w.heap.size + 1 + 1, 0, none⟩ ⟨w.heap.size + 1 + 1 + 1, 0, none⟩ (I 0) (I 420) rfl rfl n4 n5, ?_, hbf⟩
          rw [HXE.out, HM.out]

end Go.Proofs.YtgacdmkhgllceaaGreatDoor
