/- The law's helpers: numbers, pair. -/
import Derived.Test.YtgacdmkhgllceaaGreatDoorZWorkD
import Derived.Test.YtgacdmkhgllceaaGreatDoorZLawA
import Derived.Test.YtgacdmkhgllceaaGreatDoorZPln3
import Derived.Test.YtgacdmkhgllceaaGreatDoorZApp
namespace Go.Proofs.YtgacdmkhgllceaaGreatDoor
open Go.RowKit Go.Shelf

/-- A uint32 of Go in a cell. -/
def U32E (w : World) (a : Addr) (x : Int) : Prop := w.cell? a = some (.int .u32 x) ∧ 0 ≤ x ∧ x < 4294967296
def U32s (w : World) (v : Value) (xs : List Int) : Prop := Sl 1 U32E w v xs
theorem U32E.stays : Stays U32E := fun _ _ _ _ h e => ⟨(h _ (cell_old e.1)).trans e.1, e.2⟩
theorem U32s.below {w w' : World} {v : Value} {xs : List Int} (e : U32s w v xs) (h : Below w.heap.size w w') : U32s w' v xs := Sl.stays U32E.stays (Below.old h) e
theorem U32s.shape {w : World} {v : Value} {xs : List Int} (h : U32s w v xs) : ∃ A c, v = .slice A xs.length c ∧ xs.length ≤ 140737488355328 := by
  obtain ⟨A', c', h1, h2, h3, h4⟩ := h
  exact ⟨A', c', h1, h3⟩
theorem U32s.at {w : World} {A : Option Addr} {n c : Nat} {xs : List Int} (h : U32s w (.slice A n c) xs) (i : Nat) (hi : i < xs.length) : ∃ ad, A = some ad ∧ w.cell? (ad.add i) = some (.int .u32 xs[i]) ∧ 0 ≤ xs[i] ∧ xs[i] < 4294967296 := by
  obtain ⟨A', c', h1, h2, h3, h4⟩ := h
  injection h1 with h1 h5 h6
  obtain ⟨ad, e1, e2⟩ := h4 i hi
  rw [Nat.mul_one] at e2
  exact ⟨ad, h1.trans e1, e2⟩

/-- As many numbers as are asked for. -/
def numsOf (m : Nat) (xs : List Int) : List Int := (List.range m).map fun i => if i < xs.length then md (xs.getD i 0) else 0
theorem numsOf_len (m : Nat) (xs : List Int) : (numsOf m xs).length = m := by simp [numsOf]
theorem numsOf_take {m k : Nat} (xs : List Int) (h : k < m) : (numsOf m xs).take (k + 1) = (numsOf m xs).take k ++ [if k < xs.length then md (xs.getD k 0) else 0] := by
  rw [List.take_succ_eq_append_getElem (by rw [numsOf_len]; exact h)]
  unfold numsOf; rw [List.getElem_map, List.getElem_range]
theorem numsOf_bd (m : Nat) (xs : List Int) : ∀ x ∈ numsOf m xs, 0 ≤ x ∧ x < 1073741789 := by
  intro x hx
  unfold numsOf at hx
  obtain ⟨i, _, rfl⟩ := List.mem_map.1 hx
  split
  · exact md_bd _
  · decide

set_option maxRecDepth 100000 in
set_option maxHeartbeats 2000000 in
theorem numbers_law (m : Nat) (v : Value) (xs : List Int) (w : World) (hx : U32s w v xs) (hm : m ≤ 1000) :
    Calls Tryz.prog 41 #[I m, v] w fun e w' => ∃ u, e = .returned u ∧ Ints w' u (numsOf m xs) ∧ Below w.heap.size w w' := by
  obtain ⟨A, c, rfl, hxm⟩ := hx.shape
  have HX := Lib.hid hx
  obtain ⟨i0, hi0, hzz⟩ := Option.map_eq_some_iff.1 info_int
  simp only [Prod.mk.injEq] at hzz
  have HI := Lib.hid hi0
  have HZ := Lib.hid hzz
  clear hx hi0 hzz
  go_enter Tryz.func41, Tryz.ntmps41
  go_wp2
  go_loopw [4, 5, 6, 8] (fun v4 _ _ i wr => ∃ k : Nat, k ≤ m ∧ i = I k ∧ Hid (Below w.heap.size w wr) ∧ Hid (OwnOf 3 1 encI wr w.heap.size v4 ((numsOf m xs).take k))) (fun _ _ _ i _ => m - (intOf i).toNat)
  case atStart => exact ⟨0, Nat.zero_le _, rfl, Lib.hid (Below.refl _ _), Lib.hid (OwnOf.nil _ _ _ _ _)⟩
  case round =>
    obtain ⟨k, hk, rfl, hbw, how⟩ := hrel
    by_cases hlt : k < m
    · have HT := Lib.hid (numsOf_take xs hlt)
      have hlen : Hid ((((numsOf m xs).take k).length + 1) * 8 ≤ 140737488355328) := Lib.hid (by rw [List.length_take, numsOf_len]; omega)
      by_cases hin : k < xs.length
      · obtain ⟨ad, rfl, hc, hx0, hx1⟩ := (HX.out.below hbw.out).at k hin
        have HG : Hid (xs.getD k 0 = xs[k]) := Lib.hid (by simp [hin])
        have hin2 : (k : Int) < (xs.length : Int) := by omega
        generalize xs[k] = x at *
        have HN : Hid ((numsOf m xs).take (k + 1) = (numsOf m xs).take k ++ [x % 1073741789]) := Lib.hid (by rw [HT.out, if_pos hin, HG.out]; rfl)
        clear HT
        go_wp2_with (at_builtin; refine app_one w.heap.size rfl _ _ 23 3 (I 0) 1 8 rfl Tryz.underlying23 info_int rfl (by decide) (by decide) encI _ _ (x % 1073741789) (by rfl) #[I (x % 1073741789)] rfl rfl (by intro u hu; simp at hu; subst hu; rfl) _ (by rfl) rfl how.out hbw.out hbw.out.size hlen.out ?_; intro v1 w5 ho5 hb5 _ _ _)
        go_roundw
        case rel => exact ⟨k + 1, by omega, by go_num, Lib.hid hb5, Lib.hid (by rw [HN.out]; exact ho5)⟩
        case measure => simp [intOf]; omega
      · have HN : Hid ((numsOf m xs).take (k + 1) = (numsOf m xs).take k ++ [0]) := Lib.hid (by rw [HT.out, if_neg hin])
        have hin2 : ¬ (k : Int) < (xs.length : Int) := by omega
        clear HT
        go_wp2_with (at_builtin; refine app_one w.heap.size rfl _ _ 23 3 (I 0) 1 8 rfl Tryz.underlying23 info_int rfl (by decide) (by decide) encI _ _ 0 (by rfl) #[I 0] rfl rfl (by intro u hu; simp at hu; subst hu; rfl) _ (by rfl) rfl how.out hbw.out hbw.out.size hlen.out ?_; intro v1 w5 ho5 hb5 _ _ _)
        go_roundw
        case rel => exact ⟨k + 1, by omega, by go_num, Lib.hid hb5, Lib.hid (by rw [HN.out]; exact ho5)⟩
        case measure => simp [intOf]; omega
    · obtain rfl : k = m := by omega
      have HE : Hid ((numsOf k xs).take k = numsOf k xs) := Lib.hid (List.take_of_length_le (by rw [numsOf_len]; exact Nat.le_refl _))
      have HO : Hid (Ints wr u4 (numsOf k xs)) := Lib.hid (by have h := how.out; rw [HE.out] at h; exact h.ints (by rw [numsOf_len]; omega))
      clear how
      go_wp2
      go_ret
      exact ⟨_, rfl, HO.out, hbw.out⟩

set_option maxRecDepth 100000 in
set_option maxHeartbeats 2000000 in
theorem pair_law (kp d f : Int) (w : World) (h0 : 0 ≤ kp) (h1 : kp < 1000) :
    Calls Tryz.prog 45 #[I kp, I d, I f] w fun e w' => e = .returned (.tuple #[.agg #[I kp, I (kp % 7), I (ex d), I (ex f)], .bool true]) ∧ Below w.heap.size w w' := by
  have hba := (Below.refl w.heap.size w).alloc (Nat.le_refl _) (.cells #[I 0, I 0, I 0, I 0] 85)
  have hrow := heap_alloc_new w (.cells #[I 0, I 0, I 0, I 0] 85)
  have HE : Hid (powErr 4 = 0) := Lib.hid (powP_vld 0 vld_four).2
  obtain ⟨W, hW⟩ : ∃ W, w.alloc (.cells #[I 0, I 0, I 0, I 0] 85) = W := ⟨_, rfl⟩
  rw [hW] at hba hrow
  have HB := Lib.hid hba
  have HROW := Lib.hid hrow
  clear hba hrow
  go_enter Tryz.func45, Tryz.ntmps45
  go_wp2_with fail
  refine (pow_any 4 d _).mono ?_
  rintro e w1 ⟨rfl, hb1⟩
  rw [HE.out]
  have HB1 : Hid (Below w.heap.size w w1) := Lib.hid (HB.out.trans (hb1.mono HB.out.size))
  have HR1 := Lib.hid ((hb1.block _ (Array.getElem?_eq_some_iff.1 HROW.out).1).trans HROW.out)
  clear hb1 hW
  go_wp2_with fail
  refine (pow_any 4 f _).mono ?_
  rintro e w2 ⟨rfl, hb2⟩
  rw [HE.out]
  have HB2 : Hid (Below w.heap.size w w2) := Lib.hid (HB1.out.trans (hb2.mono HB1.out.size))
  have HR2 := Lib.hid ((hb2.block _ (Array.getElem?_eq_some_iff.1 HR1.out).1).trans HR1.out)
  clear hb2
  go_wp2_with (refine wpList_storeP rfl _ _ rfl w.heap.size _ _ ⟨I kp, I (kp % 7), I (powP 4 d), I (powP 4 f)⟩ rfl rfl HR2.out rfl (by intro u hu; simp at hu; rcases hu with rfl | rfl | rfl | rfl <;> rfl) ?_; intro w4 hr4 hs4 hz4)
  refine bodyPost_ret (results_pr rfl _ _ w.heap.size (I kp) (I (kp % 7)) (I (powP 4 d)) (I (powP 4 f)) (.bool true) rfl rfl (by rw [cell_of_row w4 _ 0 _ _ (0, 0) hr4.out]; rfl) (by rw [cell_of_row w4 _ 1 _ _ (0, 0) hr4.out]; rfl) (by rw [cell_of_row w4 _ 2 _ _ (0, 0) hr4.out]; rfl) (by rw [cell_of_row w4 _ 3 _ _ (0, 0) hr4.out]; rfl)) rfl ?_
  exact ⟨rfl, HB2.out.trans (hs4.below (fun k hk => by omega) HB2.out.size)⟩

end Go.Proofs.YtgacdmkhgllceaaGreatDoor

/- The law's helpers: the shares of a keeper. -/
namespace Go.Proofs.YtgacdmkhgllceaaGreatDoor
open Go.RowKit Go.Shelf

/-- The shares whose rows a keeper owns. -/
def ofK (owners : List Int) (k : Int) (l : List (Int × Int)) : List (Int × Int) := l.filter fun x => k == owners.getD x.1.toNat 0
theorem ofK_yes {owners : List Int} {k : Int} {l : List (Int × Int)} {i : Nat} (h : i < l.length) (hq : (k == owners.getD l[i].1.toNat 0) = true) : ofK owners k (l.take (i + 1)) = ofK owners k (l.take i) ++ [l[i]] := by
  unfold ofK; rw [List.take_succ_eq_append_getElem h, List.filter_append, List.filter_cons, hq]; rfl
theorem ofK_no {owners : List Int} {k : Int} {l : List (Int × Int)} {i : Nat} (h : i < l.length) (hq : (k == owners.getD l[i].1.toNat 0) = false) : ofK owners k (l.take (i + 1)) = ofK owners k (l.take i) := by
  unfold ofK; rw [List.take_succ_eq_append_getElem h, List.filter_append, List.filter_cons, hq]; simp
theorem OwnOf.empty {α : Type} (e sz : Nat) (enc : α → List Value) (W : World) (base : Nat) (hb : base ≤ W.heap.size) : OwnOf e sz enc (W.alloc (.cells #[] e)) base (.slice (some ⟨W.heap.size, 0, none⟩) 0 0) [] :=
  ⟨by simp, .inr ⟨W.heap.size, 0, #[], rfl, hb, heap_alloc_new _ _, Nat.le_refl _, Nat.zero_le _, by simp, by simp⟩⟩

set_option maxRecDepth 100000 in
set_option maxHeartbeats 2000000 in
theorem of_law (vr vo vs vw : Value) (owners : List Int) (l : List (Int × Int)) (k : Int) (w : World) (ho : Ints w vo owners) (hs : Shares w vs l) (hw : Ints w vw [k]) (hl : ∀ x ∈ l, 0 ≤ x.1 ∧ x.1 < owners.length) (hm : l.length ≤ 1000) :
    Calls Tryz.prog 80 #[.agg #[vr, vo], vs, vw] w fun e w' => ∃ u, e = .returned u ∧ Shares w' u (ofK owners k l) ∧ Below w.heap.size w w' := by
  obtain ⟨As, cs, rfl, _⟩ := hs.shape
  obtain ⟨Aw, cw, rfl, _⟩ := hw.shape
  obtain ⟨Ao, co, rfl, _⟩ := ho.shape
  have hba : Below w.heap.size w (w.alloc (.cells #[vr, .slice Ao owners.length co] 25)) := (Below.refl _ w).alloc (Nat.le_refl _) _
  have b1 : (w.alloc (.cells #[vr, .slice Ao owners.length co] 25)).cell? ⟨w.heap.size, 1, none⟩ = some (.slice Ao owners.length co) := by rw [World.cell?_alloc_new]; rfl
  have hb2 := hba.alloc hba.size (.cells #[] 81)
  have b2 := keepA (.cells #[] 81) b1
  have ho0 := OwnOf.empty 81 2 encS (w.alloc (.cells #[vr, .slice Ao owners.length co] 25)) (w.heap.size + 1) (by simp)
  have z1 : (w.alloc (.cells #[vr, .slice Ao owners.length co] 25)).heap.size = w.heap.size + 1 := by simp
  obtain ⟨W, hW⟩ : ∃ W, (w.alloc (.cells #[vr, .slice Ao owners.length co] 25)).alloc (.cells #[] 81) = W := ⟨_, rfl⟩
  rw [z1] at ho0
  rw [hW] at hb2 b2 ho0
  have HB := Lib.hid hb2
  have HB1 := Lib.hid b2
  have HS := Lib.hid hs
  have HW := Lib.hid hw
  have HO := Lib.hid ho
  have HL := Lib.hid hl
  have HO0 := Lib.hid ho0
  clear hs hw ho hl hba b1 hb2 b2 ho0 z1
  go_enter Tryz.func80, Tryz.ntmps80
  go_wp2
  go_loopw [7, 8, 9, 10] (fun v7 v8 _ _ wr => ∃ i : Nat, i ≤ l.length ∧ v8 = I i ∧ Hid (Below (w.heap.size + 1) W wr) ∧ Hid (OwnOf 81 2 encS wr (w.heap.size + 1) v7 (ofK owners k (l.take i)))) (fun _ v8 _ _ _ => l.length - (intOf v8).toNat)
  case atStart => exact ⟨0, Nat.zero_le _, rfl, Lib.hid (Below.refl _ _), HO0⟩
  case round =>
    obtain ⟨i, hi, rfl, hbw, how⟩ := hrel
    obtain ⟨w3, hw3⟩ : ∃ w3, w3 = wr := ⟨_, rfl⟩
    subst hw3
    have HBW : Hid (Below w.heap.size w w3) := Lib.hid (HB.out.trans (hbw.out.mono (by omega)))
    have HZW : Hid (w.heap.size + 1 ≤ W.heap.size) := Lib.hid (by rw [← hW]; simp)
    by_cases hlt : i < l.length
    · have c1 : w3.cell? ⟨w.heap.size, 1, none⟩ = some (.slice Ao owners.length co) := (hbw.out.cell (p := ⟨w.heap.size, 1, none⟩) (by dsimp only; omega)).trans HB1.out
      obtain ⟨ad, rfl, h1, h2⟩ := HS.out.at i hlt
      have hx := HL.out l[i] (List.getElem_mem hlt)
      have HY := Lib.hid (ofK_yes (owners := owners) (k := k) hlt)
      have HN := Lib.hid (ofK_no (owners := owners) (k := k) hlt)
      have HLEN : Hid (((ofK owners k (l.take i)).length + 1) * 16 ≤ 140737488355328) := Lib.hid (by
        have : (ofK owners k (l.take i)).length ≤ i := Nat.le_trans (List.length_filter_le _ _) (by rw [List.length_take]; omega)
        omega)
      generalize l[i] = x at *
      obtain ⟨r, v⟩ := x
      obtain ⟨rn, rfl⟩ : ∃ rn : Nat, r = rn := ⟨r.toNat, by have := hx.1; dsimp only at this; omega⟩
      dsimp only at h1 h2 hx HY HN
      rw [Int.toNat_natCast] at HY HN
      have hrn : rn < owners.length := by have := hx.2; omega
      obtain ⟨ao, rfl, hoc⟩ := HO.out.at rn hrn
      have hog : owners.getD rn 0 = owners[rn] := by simp [hrn]
      rw [← hog] at hoc
      obtain ⟨oj, hoj⟩ : ∃ oj, owners.getD rn 0 = oj := ⟨_, rfl⟩
      rw [hoj] at hoc HY HN
      obtain ⟨aw, rfl, hwc⟩ := HW.out.at 0 (by simp)
      rw [show aw.add 0 = aw by unfold Addr.add; rfl, List.getElem_cons_zero] at hwc
      have hlen1 : ([k] : List Int).length = 1 := rfl
      have HI := Lib.hid hlt
      have hil : (i : Int) < (l.length : Int) := by omega
      have HH1 := Lib.hid h1
      have HH2 := Lib.hid h2
      have HHW := Lib.hid hwc
      replace h1 := keep HBW.out h1
      replace h2 := keep HBW.out h2
      replace hwc := keep HBW.out hwc
      replace hoc := keep HBW.out hoc
      clear hog hoj hx
      go_wp2
      go_quiet (fail)
      go_wp2
      go_loopw [7, 10] (fun v7 v10 wr => ∃ q : Nat, q ≤ 1 ∧ v10 = I q ∧ Hid (Below (w.heap.size + 1) W wr) ∧ Hid (OwnOf 81 2 encS wr (w.heap.size + 1) v7 (if q = 0 then ofK owners k (l.take i) else ofK owners k (l.take (i + 1))))) (fun _ v10 _ => 1 - (intOf v10).toNat)
      case atStart => exact ⟨0, Nat.zero_le _, rfl, Lib.hid (below_drewN hbw.out _), Lib.hid (how.out.kept fun _ _ => rfl)⟩
      case round =>
        obtain ⟨q, hq, rfl, hbq, hoq⟩ := hrel
        have HBQ : Hid (Below w.heap.size w wr) := Lib.hid (HB.out.trans (hbq.out.mono (by omega)))
        by_cases hq0 : q = 0
        · subst hq0
          have HOQ : Hid (OwnOf 81 2 encS wr (w.heap.size + 1) u7 (ofK owners k (l.take i))) := Lib.hid (by have h := hoq.out; rwa [if_pos rfl] at h)
          replace h1 := keep HBQ.out HH1.out
          replace h2 := keep HBQ.out HH2.out
          replace hwc := keep HBQ.out HHW.out
          clear hoq
          by_cases he : k = oj
          · have g1 : (k == oj) = true := beq_iff_eq.2 he
            have HNX := Lib.hid (HY.out g1)
            clear he
            go_wp2_with (at_builtin; refine app_one (w0 := W) (w.heap.size + 1) rfl _ _ 36 81 (.agg #[I 0, I 0]) 2 16 rfl Tryz.underlying36 info_share rfl (by decide) (by decide) encS _ _ ((rn : Int), v) (by rfl) #[I rn, I v] rfl rfl (encS_one _) _ (by rfl) rfl HOQ.out hbq.out (Nat.le_trans HZW.out hbq.out.size) HLEN.out ?_; intro v1 w5 ho5 hb5 _ _ _)
            go_roundw
            case rel => exact ⟨1, Nat.le_refl _, by go_num, Lib.hid hb5, Lib.hid (by rw [if_neg (by decide), HNX.out]; exact ho5)⟩
            case measure => simp [intOf]
          · have g1 : (k == oj) = false := beq_eq_false_iff_ne.2 he
            have HNX := Lib.hid (HN.out g1)
            clear he
            go_wp2
            go_roundw
            case rel => exact ⟨1, Nat.le_refl _, by go_num, hbq, Lib.hid (by rw [if_neg (by decide), HNX.out]; exact HOQ.out)⟩
            case measure => simp [intOf]
        · obtain rfl : q = 1 := by omega
          have HOQ : Hid (OwnOf 81 2 encS wr (w.heap.size + 1) u7 (ofK owners k (l.take (i + 1)))) := Lib.hid (by have h := hoq.out; rwa [if_neg (by decide)] at h)
          clear hoq
          go_wp2
          go_roundw
          case rel => exact ⟨i + 1, by have := HI.out; omega, by go_num, hbq, HOQ⟩
          case measure => have := HI.out; simp [intOf]; omega
    · obtain rfl : i = l.length := by omega
      have HOQ : Hid (Shares w3 u7 (ofK owners k l)) := Lib.hid (by
        have h := how.out
        rw [List.take_length] at h
        exact h.shares (Nat.le_trans (List.length_filter_le _ _) (by omega)))
      clear how
      go_wp2
      go_ret
      exact ⟨_, rfl, HOQ.out, HBW.out⟩

end Go.Proofs.YtgacdmkhgllceaaGreatDoor

/- The law's table: the parts of all keepers. -/
namespace Go.Proofs.YtgacdmkhgllceaaGreatDoor
open Go.RowKit Go.Shelf

/-- What a table is. -/
structure TabN (w : World) (vr vo vc vs vw vp vn : Value) (rows : List (List Int)) (owners commits : List Int) (shares : List (Int × Int)) (who : List Int) (ps : List Pr) (ns : List Int) : Prop where
  r : Rows2 w vr rows
  o : Ints w vo owners
  c : Ints w vc commits
  s : Shares w vs shares
  wh : Ints w vw who
  p : Pairs w vp ps
  n : Ints w vn ns
theorem TabN.below {w w' : World} {vr vo vc vs vw vp vn : Value} {rows : List (List Int)} {owners commits : List Int} {shares : List (Int × Int)} {who : List Int} {ps : List Pr} {ns : List Int} (h : TabN w vr vo vc vs vw vp vn rows owners commits shares who ps ns) (hb : Below w.heap.size w w') : TabN w' vr vo vc vs vw vp vn rows owners commits shares who ps ns :=
  ⟨h.r.below hb, h.o.below hb, h.c.below hb, h.s.below hb, h.wh.below hb, h.p.below hb, h.n.below hb⟩
/-- What the values of the region of a part are. -/
def PtV (owners : List Int) (n : Int) (shares : List (Int × Int)) (z : Int) (j : Nat) (v : Value) (w : World) : Prop :=
  match j with
  | 12 => Ints w v [n]
  | 13 => Shares w v (ofK owners n shares)
  | 27 => v = .tuple #[I z, I 0]
  | _ => True
theorem PtV.below {owners : List Int} {n : Int} {shares : List (Int × Int)} {z : Int} {w w' : World} (hb : Below w.heap.size w w') : ∀ (j : Nat) (u : Value), PtV owners n shares z j u w → PtV owners n shares z j u w' := by
  intro j u h
  unfold PtV at *
  split at h
  · exact h.below hb
  · exact h.below hb
  all_goals exact h

set_option maxRecDepth 100000 in
set_option maxHeartbeats 4000000 in
theorem parts_law (ep : Int) (vr vo vc vs vw vp vn vt : Value) (rows : List (List Int)) (owners commits : List Int) (shares : List (Int × Int)) (who : List Int) (ps : List Pr) (ns : List Int) (txt : List UInt8) (zs : List Int) (w : World)
    (ht : TabN w vr vo vc vs vw vp vn rows owners commits shares who ps ns) (hx : Bytes w vt txt) (hg : Glob w) (hsh : ∀ x ∈ shares, 0 ≤ x.1 ∧ x.1 < owners.length) (hsl : shares.length ≤ 1000) (hwl : who.length ≤ 64) (hnl : ns.length = 2 * who.length) (hzl : zs.length = who.length)
    (hmk : ∀ i (h : i < who.length), makeR ep rows owners commits txt ps who[i] (ofK owners who[i] shares) (ns.getD (2 * i) 0) (ns.getD (2 * i + 1) 0) = (zs.getD i 0, 0)) :
    Calls Tryz.prog 27 #[.agg #[I ep, vr, vo, vc, vs, vw, vp, vn], vt] w fun e w' => ∃ u, e = .returned (.tuple #[u, .bool true]) ∧ Ints w' u zs ∧ (∀ k, u.ownBlock = some k → w.heap.size ≤ k) ∧ Below w.heap.size w w' := by
  obtain ⟨Aw, cw, rfl, _⟩ := ht.wh.shape
  obtain ⟨An, cn, rfl, _⟩ := ht.n.shape
  have hba : Below w.heap.size w (w.alloc (.cells #[I ep, vr, vo, vc, vs, .slice Aw who.length cw, vp, .slice An ns.length cn] 46)) := (Below.refl _ w).alloc (Nat.le_refl _) _
  have hrow := heap_alloc_new w (.cells #[I ep, vr, vo, vc, vs, .slice Aw who.length cw, vp, .slice An ns.length cn] 46)
  obtain ⟨W, hW⟩ : ∃ W, w.alloc (.cells #[I ep, vr, vo, vc, vs, .slice Aw who.length cw, vp, .slice An ns.length cn] 46) = W := ⟨_, rfl⟩
  rw [hW] at hba hrow
  have HB := Lib.hid hba
  have HROW := Lib.hid hrow
  have HT := Lib.hid ht
  have HX := Lib.hid hx
  have HG := Lib.hid hg
  have HSH := Lib.hid hsh
  have HMK := Lib.hid hmk
  have b5 : W.cell? ⟨w.heap.size, 5, none⟩ = some (.slice Aw who.length cw) := by rw [cell_of_row W _ 5 _ _ (0, 0) hrow]; rfl
  obtain ⟨i0, hi0, hzz⟩ := Option.map_eq_some_iff.1 info_int
  simp only [Prod.mk.injEq] at hzz
  have HI := Lib.hid hi0
  have HZ := Lib.hid hzz
  have HNL := Lib.hid hnl
  have HZL := Lib.hid hzl
  clear ht hx hg hsh hmk hba hrow hi0 hzz hnl hzl
  go_enter Tryz.func27, Tryz.ntmps27
  go_wp2
  go_loopw [4, 6, 7, 8, 9, 13] (fun v4 _ _ _ _ v13 wr => ∃ i : Nat, i ≤ who.length ∧ v13 = I i ∧ Hid (Below W.heap.size W wr) ∧ Hid (OwnOf 3 1 encI wr W.heap.size v4 (zs.take i))) (fun _ _ _ _ _ v13 _ => who.length - (intOf v13).toNat)
  case atStart => exact ⟨0, Nat.zero_le _, rfl, Lib.hid (Below.refl _ _), Lib.hid (OwnOf.nil _ _ _ _ _)⟩
  case round =>
    obtain ⟨i, hi, rfl, hbw, how⟩ := hrel
    have HBW : Hid (Below w.heap.size w wr) := Lib.hid (HB.out.trans (hbw.out.mono HB.out.size))
    by_cases hlt : i < who.length
    · have hr2 := (hbw.out.block _ (Array.getElem?_eq_some_iff.1 HROW.out).1).trans HROW.out
      have q0 : wr.cell? ⟨w.heap.size, 0, none⟩ = some (I ep) := by rw [cell_of_row wr _ 0 _ _ (0, 0) hr2]; rfl
      have q1 : wr.cell? ⟨w.heap.size, 1, none⟩ = some vr := by rw [cell_of_row wr _ 1 _ _ (0, 0) hr2]; rfl
      have q2 : wr.cell? ⟨w.heap.size, 2, none⟩ = some vo := by rw [cell_of_row wr _ 2 _ _ (0, 0) hr2]; rfl
      have q3 : wr.cell? ⟨w.heap.size, 3, none⟩ = some vc := by rw [cell_of_row wr _ 3 _ _ (0, 0) hr2]; rfl
      have q4 : wr.cell? ⟨w.heap.size, 4, none⟩ = some vs := by rw [cell_of_row wr _ 4 _ _ (0, 0) hr2]; rfl
      have q6 : wr.cell? ⟨w.heap.size, 6, none⟩ = some vp := by rw [cell_of_row wr _ 6 _ _ (0, 0) hr2]; rfl
      have q7 : wr.cell? ⟨w.heap.size, 7, none⟩ = some (.slice An ns.length cn) := by rw [cell_of_row wr _ 7 _ _ (0, 0) hr2]; rfl
      have HTW := Lib.hid (HT.out.below HBW.out)
      obtain ⟨aw, rfl, hwc⟩ := HTW.out.wh.at i hlt
      have hn0 : 2 * i < ns.length := by have := HNL.out; omega
      have hn1 : 2 * i + 1 < ns.length := by have := HNL.out; omega
      obtain ⟨an, rfl, hc0⟩ := HTW.out.n.at (2 * i) hn0
      obtain ⟨an2, e2, hc1⟩ := HTW.out.n.at (2 * i + 1) hn1
      injection e2 with e2
      subst e2
      have hm := HMK.out i hlt
      have g0 : ns.getD (2 * i) 0 = ns[2 * i] := by simp [hn0]
      have g1 : ns.getD (2 * i + 1) 0 = ns[2 * i + 1] := by simp [hn1]
      have HTK : Hid (zs.take (i + 1) = zs.take i ++ [zs.getD i 0]) := Lib.hid (by
        have hz : i < zs.length := by rw [HZL.out]; exact hlt
        rw [List.take_succ_eq_append_getElem hz]; simp [hz])
      rw [g0, g1] at hm
      generalize ns[2 * i] = n0 at *
      generalize ns[2 * i + 1] = n1 at *
      generalize who[i] = k at *
      generalize zs.getD i 0 = z at *
      have HM := Lib.hid hm
      rw [show an.add (2 * i + 1) = ⟨an.block, an.off + (2 * i + 1), none⟩ by unfold Addr.add; rw [if_neg (by omega)]] at hc1
      have mw1 : IntKind.i64.wrap (2 * (i : Int)) = 2 * (i : Int) := wraps_i64 _ (by omega) (by omega)
      have mw2 : IntKind.i64.wrap (2 * (i : Int) + 1) = 2 * (i : Int) + 1 := wraps_i64 _ (by omega) (by omega)
      have m1 : (0 : Int) ≤ 2 * (i : Int) := by omega
      have m2 : 2 * (i : Int) < (ns.length : Int) := by omega
      have m3 : (2 * (i : Int)).toNat = 2 * i := by omega
      have m4 : (0 : Int) ≤ 2 * (i : Int) + 1 := by omega
      have m5 : 2 * (i : Int) + 1 < (ns.length : Int) := by omega
      have m6 : (2 * (i : Int) + 1).toNat = 2 * i + 1 := by omega
      have HGW := Lib.hid (HG.out.below HBW.out)
      have HXW := Lib.hid (HX.out.below HBW.out)
      clear hm g0 g1 hr2
      go_wp2
      refine Rely.regionB2 _ _ (by kernel_rfl) [0,1,2,3,4,5,6,7,8,9,10,11,14,15,16,17,18,19,20,21,22,23,24,25,26] [12,13,27] [28,29,30,31,32] (PtV owners k shares z) (fun _ => True) (by kernel_rfl) (fun _ _ => trivial) ?_
      (refine Rely.Fx.run ?rlc1 rfl rfl (fun _ _ => ?rlh1) ?rlk1; (case rlh1 => (go_simp; try rfl)); go_simp)
      (refine Rely.Fx.load ?rlcz rfl (by kernel_rfl) rfl (Rely.Stab.refl _ _ _) (fun _ hb => ?rlhz) ?rlkz; (case rlhz => (have hr0 := (hb.cell (cell_old q0)).trans q0; have hr1 := (hb.cell (cell_old q1)).trans q1; have hr2 := (hb.cell (cell_old q2)).trans q2; have hr3 := (hb.cell (cell_old q3)).trans q3; go_simp; try rfl)); go_simp)
      (refine Rely.Fx.run ?rlc2 rfl rfl (fun _ _ => ?rlh2) ?rlk2; (case rlh2 => (go_simp; try rfl)); go_simp)
      (refine Rely.Fx.run ?rlc3 rfl rfl (fun _ _ => ?rlh3) ?rlk3; (case rlh3 => (go_simp; try rfl)); go_simp)
      (refine Rely.Fx.load ?rlc4 rfl (by kernel_rfl) rfl (Rely.Stab.refl _ _ _) (fun _ hb => ?rlh4) ?rlk4; (case rlh4 => (have hrl := (hb.cell (cell_old q6)).trans q6; go_simp; try rfl)); go_simp)
      (refine Rely.Fx.run ?rlc5 rfl rfl (fun _ _ => ?rlh5) ?rlk5; (case rlh5 => (go_simp; try rfl)); go_simp)
      (refine Rely.Fx.run ?rlc6 rfl rfl (fun _ _ => ?rlh6) ?rlk6; (case rlh6 => (go_simp; try rfl)); go_simp)
      (refine Rely.Fx.run ?rlc7 rfl rfl (fun _ _ => ?rlh7) ?rlk7; (case rlh7 => (go_simp; try rfl)); go_simp)
      (refine Rely.Fx.load ?rlcy rfl (by kernel_rfl) rfl (Rely.Stab.refl _ _ _) (fun _ hb => ?rlhy) ?rlky; (case rlhy => (have hr1 := (hb.cell (cell_old q1)).trans q1; have hr2 := (hb.cell (cell_old q2)).trans q2; go_simp; try rfl)); go_simp)
      (refine Rely.Fx.run ?rlc8 rfl rfl (fun _ _ => ?rlh8) ?rlk8; (case rlh8 => (go_simp; try rfl)); go_simp)
      (refine Rely.Fx.load ?rlc9 rfl (by kernel_rfl) rfl (Rely.Stab.refl _ _ _) (fun _ hb => ?rlh9) ?rlk9; (case rlh9 => (have hrl := (hb.cell (cell_old q4)).trans q4; go_simp; try rfl)); go_simp)
      (refine Rely.Fx.run ?rlc10 rfl rfl (fun _ _ => ?rlh10) ?rlk10; (case rlh10 => (go_simp; try rfl)); go_simp)
      (refine Rely.Fx.run ?rlc11 rfl rfl (fun _ _ => ?rlh11) ?rlk11; (case rlh11 => (go_simp; try rfl)); go_simp)
      (refine Rely.Fx.load ?rlc12 rfl (by kernel_rfl) rfl (Rely.Stab.refl _ _ _) (fun _ hb => ?rlh12) ?rlk12; (case rlh12 => (have hrl := (hb.cell (cell_old q7)).trans q7; go_simp; try rfl)); go_simp)
      (refine Rely.Fx.run ?rlc13 rfl rfl (fun _ _ => ?rlh13) ?rlk13; (case rlh13 => (go_simp; try rfl)); go_simp)
      (refine Rely.Fx.run ?rlc14 rfl rfl (fun _ _ => ?rlh14) ?rlk14; (case rlh14 => (go_simp; try rfl)); go_simp)
      (refine Rely.Fx.run ?rlc15 rfl rfl (fun _ _ => ?rlh15) ?rlk15; (case rlh15 => (go_simp; try rfl)); go_simp)
      (refine Rely.Fx.load ?rlc16 rfl (by kernel_rfl) rfl (Rely.Stab.refl _ _ _) (fun _ hb => ?rlh16) ?rlk16; (case rlh16 => (have hrl := (hb.cell (cell_old hc0)).trans hc0; go_simp; try rfl)); go_simp)
      (refine Rely.Fx.run ?rlc17 rfl rfl (fun _ _ => ?rlh17) ?rlk17; (case rlh17 => (go_simp; try rfl)); go_simp)
      (refine Rely.Fx.load ?rlc18 rfl (by kernel_rfl) rfl (Rely.Stab.refl _ _ _) (fun _ hb => ?rlh18) ?rlk18; (case rlh18 => (have hrl := (hb.cell (cell_old q7)).trans q7; go_simp; try rfl)); go_simp)
      (refine Rely.Fx.run ?rlc19 rfl rfl (fun _ _ => ?rlh19) ?rlk19; (case rlh19 => (go_simp; try rfl)); go_simp)
      (refine Rely.Fx.run ?rlc20 rfl rfl (fun _ _ => ?rlh20) ?rlk20; (case rlh20 => (go_simp; try rfl)); go_simp)
      (refine Rely.Fx.run ?rlc21 rfl rfl (fun _ _ => ?rlh21) ?rlk21; (case rlh21 => (go_simp; try rfl)); go_simp)
      (refine Rely.Fx.run ?rlc22 rfl rfl (fun _ _ => ?rlh22) ?rlk22; (case rlh22 => (go_simp; try rfl)); go_simp)
      (refine Rely.Fx.load ?rlc23 rfl (by kernel_rfl) rfl (Rely.Stab.refl _ _ _) (fun _ hb => ?rlh23) ?rlk23; (case rlh23 => (have hrl := (hb.cell (cell_old hc1)).trans hc1; go_simp; try rfl)); go_simp)
      refine Rely.Fx.done ?_
      (refine Rely.Lt.step (o := ?rlo24) 31 ?rlho24 ?rlhd24 (by simp) ?rlh24 ?rlk24; (case rlho24 => (simp only [List.getElem?_toArray, List.getElem?_cons_succ, List.getElem?_cons_zero]; rfl)); (case rlhd24 => rfl))
      · intro w' hb hp
        clear hp
        go_wp2
        exact ⟨_, rfl, Ints.new w' [k] _ 1 3 #[I k] rfl rfl rfl (show 1 ≤ 140737488355328 by decide), hb.alloc hb.size _, fun j _ _ u hu => PtV.below ((Below.refl _ _).alloc (Nat.le_refl _) _) j u hu⟩
      intro v12
      go_simp
      (refine Rely.Lt.step (o := ?rlo25) 32 ?rlho25 ?rlhd25 (by simp) ?rlh25 ?rlk25; (case rlho25 => (simp only [List.getElem?_toArray, List.getElem?_cons_succ, List.getElem?_cons_zero]; rfl)); (case rlhd25 => rfl))
      · intro w' hb hp
        have hi : PtV owners k shares z 12 v12 w' := hp.get 12 v12 (by simp) (by kernel_rfl)
        clear hp
        go_wp2_with fail
        refine (of_law _ _ _ v12 owners shares k w' (HTW.out.o.below hb) (HTW.out.s.below hb) hi HSH.out hsl).mono ?_
        rintro r w3 ⟨u, rfl, hu, hb3⟩
        have HU := Lib.hid hu
        have HB3 := Lib.hid hb3
        clear hu hb3 hi
        go_wp2
        exact ⟨_, rfl, HU.out, hb.trans (HB3.out.mono hb.size), fun j _ _ u hu => PtV.below HB3.out j u hu⟩
      intro v13
      go_simp
      (refine Rely.Lt.step (o := ?rlo26) 46 ?rlho26 ?rlhd26 (by simp) ?rlh26 ?rlk26; (case rlho26 => (simp only [List.getElem?_toArray, List.getElem?_cons_succ, List.getElem?_cons_zero]; rfl)); (case rlhd26 => rfl))
      · intro w' hb hp
        have hi : PtV owners k shares z 13 v13 w' := hp.get 13 v13 (by simp) (by kernel_rfl)
        clear hp
        go_wp2_with fail
        refine (make_any ep _ _ _ _ _ v13 rows owners commits txt ps (ofK owners k shares) k n0 n1 w' hi (HTW.out.r.below hb) (HTW.out.o.below hb) (HTW.out.c.below hb) (HXW.out.below hb) (HTW.out.p.below hb) (HGW.out.below hb)).mono ?_
        rintro r w3 ⟨rfl, hb3⟩
        rw [HM.out]
        have HB3 := Lib.hid hb3
        clear hb3 hi
        go_wp2
        exact ⟨_, rfl, rfl, hb.trans (HB3.out.mono hb.size), fun j _ _ u hu => PtV.below HB3.out j u hu⟩
      intro v27
      go_simp
      refine Rely.Lt.done ?_
      intro w8 hb hp
      obtain rfl : v27 = .tuple #[I z, I 0] := hp.one
      have HB8 : Hid (Below W.heap.size W w8) := Lib.hid (hbw.out.trans (hb.mono hbw.out.size))
      have HO8 := Lib.hid (how.out.below hb)
      have HLEN : Hid (((zs.take i).length + 1) * 8 ≤ 140737488355328) := Lib.hid (by rw [List.length_take]; omega)
      clear hb hp q0 q1 q2 q3 q4 q6 q7 hc0 hc1 hwc mw1 mw2 m1 m2 m3 m4 m5 m6 hn0 hn1 how
      (refine Rely.Tg.one (o := ?rlo27) 28 [29,30,31,32] (by kernel_rfl) ?rle27 ?rlho27 ?rlk27; (case rle27 => rfl); (case rlho27 => (simp only [List.getElem?_toArray, List.getElem?_cons_succ, List.getElem?_cons_zero]; rfl)))
      go_wp2
      refine ⟨rfl, ?_⟩
      (refine Rely.Tg.two (o := ?rlo28) (o' := ?rlp28) 29 30 [30,31,32] [29,31,32] (by kernel_rfl) ?rle28 ?rlf28 ?rlho28 ?rlhp28 ?rlk28 ?rlm28; (case rle28 => rfl); (case rlf28 => rfl); (case rlho28 => (simp only [List.getElem?_toArray, List.getElem?_cons_succ, List.getElem?_cons_zero]; rfl)); (case rlhp28 => (simp only [List.getElem?_toArray, List.getElem?_cons_succ, List.getElem?_cons_zero]; rfl)))
      · go_wp2
        refine ⟨rfl, ?_⟩
        (refine Rely.Tg.two (o := ?rlo29) (o' := ?rlp29) 30 31 [31,32] [30,32] (by kernel_rfl) ?rle29 ?rlf29 ?rlho29 ?rlhp29 ?rlk29 ?rlm29; (case rle29 => rfl); (case rlf29 => rfl); (case rlho29 => (simp only [List.getElem?_toArray, List.getElem?_cons_succ, List.getElem?_cons_zero]; rfl)); (case rlhp29 => (simp only [List.getElem?_toArray, List.getElem?_cons_succ, List.getElem?_cons_zero]; rfl)))
        · go_wp2
          refine ⟨rfl, ?_⟩
          (refine Rely.Tg.one (o := ?rlo30) 31 [32] (by kernel_rfl) ?rle30 ?rlho30 ?rlk30; (case rle30 => rfl); (case rlho30 => (simp only [List.getElem?_toArray, List.getElem?_cons_succ, List.getElem?_cons_zero]; rfl)))
          go_wp2
          refine ⟨rfl, ?_⟩
          (refine Rely.Tg.one (o := ?rlo31) 32 [] (by kernel_rfl) ?rle31 ?rlho31 ?rlk31; (case rle31 => rfl); (case rlho31 => (simp only [List.getElem?_toArray, List.getElem?_cons_succ, List.getElem?_cons_zero]; rfl)))
          go_wp2
          refine ⟨rfl, ?_⟩
          refine Rely.Tg.done ?_
          go_wp2_with (at_builtin; refine app_one W.heap.size rfl _ _ 23 3 (I 0) 1 8 rfl Tryz.underlying23 info_int rfl (by decide) (by decide) encI _ _ z (by rfl) #[I z] rfl rfl (by intro u hu; simp at hu; subst hu; rfl) _ (by rfl) rfl HO8.out HB8.out HB8.out.size HLEN.out ?_; intro v1 w9 ho9 hb9 _ _ _)
          go_roundw
          case rel => exact ⟨i + 1, by omega, by go_num, Lib.hid hb9, Lib.hid (by rw [HTK.out]; exact ho9)⟩
          case measure => simp [intOf]; omega
        · go_wp2
          refine ⟨rfl, ?_⟩
          (refine Rely.Tg.one (o := ?rlo32) 30 [32] (by kernel_rfl) ?rle32 ?rlho32 ?rlk32; (case rle32 => rfl); (case rlho32 => (simp only [List.getElem?_toArray, List.getElem?_cons_succ, List.getElem?_cons_zero]; rfl)))
          go_wp2
          refine ⟨rfl, ?_⟩
          (refine Rely.Tg.one (o := ?rlo33) 32 [] (by kernel_rfl) ?rle33 ?rlho33 ?rlk33; (case rle33 => rfl); (case rlho33 => (simp only [List.getElem?_toArray, List.getElem?_cons_succ, List.getElem?_cons_zero]; rfl)))
          go_wp2
          refine ⟨rfl, ?_⟩
          refine Rely.Tg.done ?_
          go_wp2_with (at_builtin; refine app_one W.heap.size rfl _ _ 23 3 (I 0) 1 8 rfl Tryz.underlying23 info_int rfl (by decide) (by decide) encI _ _ z (by rfl) #[I z] rfl rfl (by intro u hu; simp at hu; subst hu; rfl) _ (by rfl) rfl HO8.out HB8.out HB8.out.size HLEN.out ?_; intro v1 w9 ho9 hb9 _ _ _)
          go_roundw
          case rel => exact ⟨i + 1, by omega, by go_num, Lib.hid hb9, Lib.hid (by rw [HTK.out]; exact ho9)⟩
          case measure => simp [intOf]; omega
      · go_wp2
        refine ⟨rfl, ?_⟩
        (refine Rely.Tg.one (o := ?rlo34) 29 [31,32] (by kernel_rfl) ?rle34 ?rlho34 ?rlk34; (case rle34 => rfl); (case rlho34 => (simp only [List.getElem?_toArray, List.getElem?_cons_succ, List.getElem?_cons_zero]; rfl)))
        go_wp2
        refine ⟨rfl, ?_⟩
        (refine Rely.Tg.one (o := ?rlo35) 31 [32] (by kernel_rfl) ?rle35 ?rlho35 ?rlk35; (case rle35 => rfl); (case rlho35 => (simp only [List.getElem?_toArray, List.getElem?_cons_succ, List.getElem?_cons_zero]; rfl)))
        go_wp2
        refine ⟨rfl, ?_⟩
        (refine Rely.Tg.one (o := ?rlo36) 32 [] (by kernel_rfl) ?rle36 ?rlho36 ?rlk36; (case rle36 => rfl); (case rlho36 => (simp only [List.getElem?_toArray, List.getElem?_cons_succ, List.getElem?_cons_zero]; rfl)))
        go_wp2
        refine ⟨rfl, ?_⟩
        refine Rely.Tg.done ?_
        go_wp2_with (at_builtin; refine app_one W.heap.size rfl _ _ 23 3 (I 0) 1 8 rfl Tryz.underlying23 info_int rfl (by decide) (by decide) encI _ _ z (by rfl) #[I z] rfl rfl (by intro u hu; simp at hu; subst hu; rfl) _ (by rfl) rfl HO8.out HB8.out HB8.out.size HLEN.out ?_; intro v1 w9 ho9 hb9 _ _ _)
        go_roundw
        case rel => exact ⟨i + 1, by omega, by go_num, Lib.hid hb9, Lib.hid (by rw [HTK.out]; exact ho9)⟩
        case measure => simp [intOf]; omega
    · obtain rfl : i = who.length := by omega
      have HO : Hid (Ints wr u4 zs) := Lib.hid (by
        have h := how.out
        rw [List.take_of_length_le (by rw [HZL.out]; exact Nat.le_refl _)] at h
        exact h.ints (by rw [HZL.out]; omega))
      have HOB : Hid (∀ k, u4.ownBlock = some k → w.heap.size ≤ k) := Lib.hid (fun k e => by have h1 := (how.out.base_le k e).1; have h2 := HB.out.size; omega)
      clear how
      go_wp2
      go_ret2
      exact ⟨_, rfl, HO.out, HOB.out, HBW.out⟩

end Go.Proofs.YtgacdmkhgllceaaGreatDoor

/- The law's table: the signature of all parts. -/
namespace Go.Proofs.YtgacdmkhgllceaaGreatDoor
open Go.RowKit Go.Shelf

/-- A sum in the field. -/
def sumQ (l : List Int) : Int := l.foldl add 0
theorem sumQ_take {l : List Int} {k : Nat} (h : k < l.length) : sumQ (l.take (k + 1)) = add (sumQ (l.take k)) l[k] := by
  unfold sumQ; rw [List.take_succ_eq_append_getElem h, List.foldl_append]; rfl
theorem sumQ_fold : ∀ (l : List Int) (c : Int), md (l.foldl add c) = md (c + l.sum)
  | [], c => by simp
  | x :: l, c => by
    rw [List.foldl_cons, sumQ_fold l, List.sum_cons]
    unfold add md; omega
theorem sumQ_md (l : List Int) : md (sumQ l) = md l.sum := by unfold sumQ; rw [sumQ_fold, Int.zero_add]
theorem sumQ_bd_fold : ∀ (l : List Int) (c : Int), 0 ≤ c ∧ c < 1073741789 → 0 ≤ l.foldl add c ∧ l.foldl add c < 1073741789
  | [], _, h => h
  | x :: l, c, _ => by rw [List.foldl_cons]; exact sumQ_bd_fold l _ (md_bd _)
theorem sumQ_bd (l : List Int) : 0 ≤ sumQ l ∧ sumQ l < 1073741789 := sumQ_bd_fold l 0 (by decide)

set_option maxRecDepth 1000000 in
theorem agg_sg (W : World) : (isAgg 50).run Tryz.prog W = .ok true W := by rfl
set_option maxRecDepth 1000000 in
theorem size_sg (W : World) : (sizeOf 50).run Tryz.prog W = .ok 2 W := by rfl
/-- A signature that is a result and lies in a cell of its own. -/
theorem results_sg {fn : Func} {t s : Tmp} (h : fn.results = #[.cell t 50, .tmp s]) (tmps : Array Value) (W : World) (g : Nat) (a b e : Value) (hp : tmps.getD t undef = .pointer (some ⟨g, 0, none⟩)) (he : tmps.getD s undef = e)
    (c0 : W.cell? ⟨g, 0, none⟩ = some a) (c1 : W.cell? ⟨g, 1, none⟩ = some b) : (results fn tmps).run Tryz.prog W = .ok (.tuple #[.agg #[a, b], e]) W := by
  have hl : (loadCells ⟨g, 0, none⟩ 2).run Tryz.prog W = .ok #[a, b] W :=
    run_loadCells_list (P := Tryz.prog) W ⟨g, 0, none⟩ [a, b] (fun j v hv => by
      have hadd : (⟨g, 0, none⟩ : Addr).add j = ⟨g, j, none⟩ := by unfold Addr.add; split <;> simp_all
      rw [hadd]
      have hj : j < 2 := (List.getElem?_eq_some_iff.1 hv).1
      have : j = 0 ∨ j = 1 := by omega
      rcases this with rfl | rfl <;> (injection hv with hv; subst hv; assumption))
  have hrun : (loadVar 50 ⟨g, 0, none⟩).run Tryz.prog W = .ok (.agg #[a, b]) W := by
    simp only [Go.loadVar, Sem.run_bind, agg_sg, size_sg, hl, Result.andThen_ok, if_true, Sem.run_pure]
  have hp' : tmps[t]?.getD undef = .pointer (some ⟨g, 0, none⟩) := by simpa using hp
  have he' : tmps[s]?.getD undef = e := by simpa using he
  simp [results, h, hp', he', asAddr, hrun]

set_option maxRecDepth 100000 in
set_option maxHeartbeats 4000000 in
theorem signed_law (ep : Int) (vr vo vc vs vw vp vn vt : Value) (rows : List (List Int)) (owners commits : List Int) (shares : List (Int × Int)) (who : List Int) (ps : List Pr) (ns : List Int) (txt : List UInt8) (zs : List Int) (w : World)
    (ht : TabN w vr vo vc vs vw vp vn rows owners commits shares who ps ns) (hx : Bytes w vt txt) (hg : Glob w) (hsh : ∀ x ∈ shares, 0 ≤ x.1 ∧ x.1 < owners.length) (hsl : shares.length ≤ 1000) (hwl : who.length ≤ 64) (hnl : ns.length = 2 * who.length) (hzl : zs.length = who.length)
    (hmk : ∀ i (h : i < who.length), makeR ep rows owners commits txt ps who[i] (ofK owners who[i] shares) (ns.getD (2 * i) 0) (ns.getD (2 * i + 1) 0) = (zs.getD i 0, 0)) (hbe : begE ep rows owners commits txt.length ps = 0) :
    Calls Tryz.prog 25 #[.agg #[I ep, vr, vo, vc, vs, vw, vp, vn], vt] w fun e w' => e = .returned (.tuple #[.agg #[I (chN (commits.headD 0) txt ps), I (sumQ zs)], .bool true]) ∧ Below w.heap.size w w' := by
  obtain ⟨W1, hW1⟩ : ∃ W1, w.alloc (.cells #[I ep, vr, vo, vc, vs, vw, vp, vn] 46) = W1 := ⟨_, rfl⟩
  have hb1 : Below w.heap.size w W1 := by rw [← hW1]; exact (Below.refl _ w).alloc (Nat.le_refl _) _
  have hrow1 : W1.heap[w.heap.size]? = some (.cells #[I ep, vr, vo, vc, vs, vw, vp, vn] 46 (0, 0)) := by rw [← hW1]; exact heap_alloc_new _ _
  have z1 : W1.heap.size = w.heap.size + 1 := by rw [← hW1]; simp
  obtain ⟨W, hW⟩ : ∃ W, W1.alloc (.cells #[I 0, I 0] 50) = W := ⟨_, rfl⟩
  have hba : Below w.heap.size w W := by rw [← hW]; exact hb1.alloc hb1.size _
  have hrow : W.heap[w.heap.size]? = some (.cells #[I ep, vr, vo, vc, vs, vw, vp, vn] 46 (0, 0)) := by rw [← hW]; exact (heap_alloc_old W1 _ (by omega)).trans hrow1
  have hsig : W.heap[W1.heap.size]? = some (.cells #[I 0, I 0] 50 (0, 0)) := by
    rw [← hW]; exact heap_alloc_new W1 (.cells #[I 0, I 0] 50)
  obtain ⟨Aw, cw, rfl, _⟩ := ht.wh.shape
  obtain ⟨An, cn, rfl, _⟩ := ht.n.shape
  have HB := Lib.hid hba
  have HROW := Lib.hid hrow
  have HSIG := Lib.hid hsig
  have HT := Lib.hid ht
  have HX := Lib.hid hx
  have HG := Lib.hid hg
  have HSH := Lib.hid hsh
  have HMK := Lib.hid hmk
  have HNL := Lib.hid hnl
  have HZL := Lib.hid hzl
  have HBE := Lib.hid hbe
  have hcell : ∀ (A : World) (j : Nat) (v : Value), A.heap[w.heap.size]? = some (.cells #[I ep, vr, vo, vc, vs, .slice Aw who.length cw, vp, .slice An ns.length cn] 46 (0, 0)) → (#[I ep, vr, vo, vc, vs, .slice Aw who.length cw, vp, .slice An ns.length cn] : Array Value)[j]? = some v → A.cell? ⟨w.heap.size, j, none⟩ = some v := fun A j v h e => by
    rw [cell_of_row A _ j _ _ (0, 0) h]; exact e
  have q0 := hcell W 0 _ hrow rfl
  have q1 := hcell W 1 _ hrow rfl
  have q2 := hcell W 2 _ hrow rfl
  have q3 := hcell W 3 _ hrow rfl
  have q4 := hcell W 4 _ hrow rfl
  have q5 := hcell W 5 _ hrow rfl
  have q6 := hcell W 6 _ hrow rfl
  have q7 := hcell W 7 _ hrow rfl
  have HCELL := Lib.hid hcell
  have HZ1 := Lib.hid z1
  clear ht hx hg hsh hmk hnl hzl hba hrow hsig hb1 hrow1 z1 hbe hcell
  go_enter Tryz.func25, Tryz.ntmps25
  go_wp2_with fail
  refine (parts_law ep vr vo vc vs _ vp _ vt rows owners commits shares who ps ns txt zs W (HT.out.below HB.out) (HX.out.below HB.out) (HG.out.below HB.out) HSH.out hsl hwl HNL.out HZL.out HMK.out).mono ?_
  rintro e w1 ⟨u, rfl, hu, hub, hb1⟩
  have HU := Lib.hid hu
  obtain ⟨Au, cu, rfl, _⟩ := hu.shape
  have HUB : Hid (∀ k, (Value.slice Au zs.length cu).ownBlock = some k → k ≠ W1.heap.size) := Lib.hid (fun k e h => by have := hub k e; rw [← hW] at this; simp at this; omega)
  clear hub
  have HB1 : Hid (Below w.heap.size w w1) := Lib.hid (HB.out.trans (hb1.mono HB.out.size))
  have HS1 := Lib.hid ((hb1.block _ (Array.getElem?_eq_some_iff.1 HSIG.out).1).trans HSIG.out)
  replace q0 := keep hb1 q0
  replace q1 := keep hb1 q1
  replace q2 := keep hb1 q2
  replace q3 := keep hb1 q3
  replace q6 := keep hb1 q6
  clear hb1 hu q4 q5 q7 hW hW1
  go_wp2_with fail
  refine (bindAll_any ep vr vo vc vt vp rows owners commits txt ps w1 (HT.out.below HB1.out).r (HT.out.below HB1.out).o (HT.out.below HB1.out).c (HX.out.below HB1.out) (HT.out.below HB1.out).p (HG.out.below HB1.out)).mono ?_
  rintro e w2 ⟨hbr, hb2⟩
  rcases hbr with ⟨hne, _⟩ | ⟨_, vb, rfl, _⟩
  · exact absurd HBE.out hne
  · have HB2 : Hid (Below w.heap.size w w2) := Lib.hid (HB1.out.trans (hb2.mono HB1.out.size))
    have HS2 := Lib.hid ((hb2.block _ (Array.getElem?_eq_some_iff.1 HS1.out).1).trans HS1.out)
    have HU2 := Lib.hid (HU.out.below hb2)
    obtain ⟨ch, hch⟩ : ∃ ch, chN (commits.headD 0) txt ps = ch := ⟨_, rfl⟩
    rw [hch]
    have HCH := Lib.hid hch
    have s0 : w2.cell? ⟨W1.heap.size, 0, none⟩ = some (I 0) := by rw [cell_of_row w2 _ 0 _ _ (0, 0) HS2.out]; rfl
    have f0 : w2.frozen? ⟨W1.heap.size, 0, none⟩ = false := by unfold World.frozen?; rw [HS2.out]; rfl
    obtain ⟨w3, hw3⟩ : ∃ w3, w2.setCell ⟨W1.heap.size, 0, none⟩ (I ch) = w3 := ⟨_, rfl⟩
    have HB3 : Hid (Below w.heap.size w w3) := Lib.hid (by rw [← hw3]; exact HB2.out.setCell (by have := HZ1.out; dsimp only; omega) _)
    have HS3 : Hid (w3.heap[W1.heap.size]? = some (.cells #[I ch, I 0] 50 (0, 0))) := Lib.hid (by rw [← hw3]; exact row_set HS2.out 0 (I ch))
    have HU3 : Hid (Ints w3 (.slice Au zs.length cu) zs) := Lib.hid (HU2.out.far fun k e => by rw [← hw3]; exact Deep.blk_setCell_other w2 ⟨W1.heap.size, 0, none⟩ _ k (HUB.out k e))
    clear hb2 hch q0 q1 q2 q3 q6
    go_wp2
    clear hw3 s0 f0
    go_loopw [12, 41] (fun _ v41 wr => ∃ k : Nat, k ≤ zs.length ∧ v41 = I k ∧ Hid (Below w.heap.size w wr) ∧ Hid (wr.heap[W1.heap.size]? = some (.cells #[I ch, I (sumQ (zs.take k))] 50 (0, 0))) ∧ Hid (Ints wr (.slice Au zs.length cu) zs)) (fun _ v41 _ => zs.length - (intOf v41).toNat)
    case atStart => exact ⟨0, Nat.zero_le _, rfl, HB3, HS3, HU3⟩
    case round =>
      obtain ⟨k, hk, rfl, hbw, hsg, hur⟩ := hrel
      have c0 : wr.cell? ⟨W1.heap.size, 0, none⟩ = some (I ch) := by rw [cell_of_row wr _ 0 _ _ (0, 0) hsg.out]; rfl
      have c1 : wr.cell? ⟨W1.heap.size, 1, none⟩ = some (I (sumQ (zs.take k))) := by rw [cell_of_row wr _ 1 _ _ (0, 0) hsg.out]; rfl
      by_cases hlt : k < zs.length
      · obtain ⟨au, rfl, hc⟩ := hur.out.at k hlt
        have HTK := Lib.hid (sumQ_take hlt)
        generalize zs[k] = z at *
        obtain ⟨acc, hacc⟩ : ∃ acc, sumQ (zs.take k) = acc := ⟨_, rfl⟩
        rw [hacc] at c1 HTK hsg
        clear hacc
        have HLT := Lib.hid hlt
        go_wp2_with fail
        refine (add_any acc z _).mono ?_
        rintro e w5 ⟨rfl, hb5⟩
        have HS5 := Lib.hid ((hb5.block _ (Array.getElem?_eq_some_iff.1 hsg.out).1).trans hsg.out)
        have d1 : w5.cell? ⟨W1.heap.size, 1, none⟩ = some (I acc) := by rw [cell_of_row w5 _ 1 _ _ (0, 0) HS5.out]; rfl
        have f1 : w5.frozen? ⟨W1.heap.size, 1, none⟩ = false := by unfold World.frozen?; rw [HS5.out]; rfl
        have HB6 : Hid (Below w.heap.size w (w5.setCell ⟨W1.heap.size, 1, none⟩ (I (add acc z)))) := Lib.hid ((hbw.out.trans (hb5.mono hbw.out.size)).setCell (by have := HZ1.out; dsimp only; omega) _)
        have HS6 : Hid ((w5.setCell ⟨W1.heap.size, 1, none⟩ (I (add acc z))).heap[W1.heap.size]? = some (.cells #[I ch, I (sumQ (zs.take (k + 1)))] 50 (0, 0))) := Lib.hid (by rw [HTK.out]; exact row_set HS5.out 1 _)
        have HU6 : Hid (Ints (w5.setCell ⟨W1.heap.size, 1, none⟩ (I (add acc z))) (.slice (some au) zs.length cu) zs) := Lib.hid ((hur.out.below hb5).far fun k e => Deep.blk_setCell_other w5 ⟨W1.heap.size, 1, none⟩ _ k (HUB.out k e))
        clear hb5 c0 c1 hc
        go_wp2
        go_roundw
        case rel => exact ⟨k + 1, by omega, by go_num, HB6, HS6, HU6⟩
        case measure => simp [intOf]; omega
      · obtain rfl : k = zs.length := by omega
        have c1' : wr.cell? ⟨W1.heap.size, 1, none⟩ = some (I (sumQ zs)) := by rw [c1, List.take_length]
        have f0 : wr.frozen? ⟨W1.heap.size, 0, none⟩ = false := by unfold World.frozen?; rw [hsg.out]; rfl
        have f1 : wr.frozen? ⟨W1.heap.size, 1, none⟩ = false := by unfold World.frozen?; rw [hsg.out]; rfl
        have j0 := setCell_id c0
        have j1 := setCell_id c1'
        clear c1 hur
        go_wp2
        refine bodyPost_ret (results_sg rfl _ _ W1.heap.size (I ch) (I (sumQ zs)) (.bool true) rfl rfl c0 c1') rfl ?_
        exact ⟨by rw [HCH.out], hbw.out⟩

end Go.Proofs.YtgacdmkhgllceaaGreatDoor

/- What the rest of begun needs: int cells that stay; pairs of the call's own; a key stored in a table. -/
namespace Go.Proofs.YtgacdmkhgllceaaGreatDoor
open Go.RowKit Go.Shelf

/-- Int cells stay. -/
def IntCells (A B : World) : Prop := ∀ b n, A.cell? b = some (I n) → B.cell? b = some (I n)
theorem IntCells.refl (A : World) : IntCells A A := fun _ _ h => h
theorem IntCells.trans {A B C : World} (h : IntCells A B) (k : IntCells B C) : IntCells A C := fun b n e => k b n (h b n e)
theorem IntCells.of_below {A B : World} (h : Below A.heap.size A B) : IntCells A B := fun _ _ e => keep h e
theorem Ints.ik {A B : World} {v : Value} {xs : List Int} (h : Ints A v xs) (k : IntCells A B) : Ints B v xs := by
  obtain ⟨a, c, h1, h2, h3, h4⟩ := h
  exact ⟨a, c, h1, h2, h3, fun i hi => by obtain ⟨ad, e1, e2⟩ := h4 i hi; exact ⟨ad, e1, k _ _ e2⟩⟩
theorem Shares.ik {A B : World} {v : Value} {xs : List (Int × Int)} (h : Shares A v xs) (k : IntCells A B) : Shares B v xs := by
  obtain ⟨a, c, h1, h2, h3, h4⟩ := h
  exact ⟨a, c, h1, h2, h3, fun i hi => by obtain ⟨ad, e1, e2, e3⟩ := h4 i hi; exact ⟨ad, e1, k _ _ e2, k _ _ e3⟩⟩
/-- A table's block set anew, its first cell alone being an int. -/
theorem IntCells.tab {A B : World} {g : Nat} {ep : Int} {s1 s2 s3 s4 s5 s6 s7 t1 t2 t3 t4 t5 t6 t7 : Value} {T : TypeId} (hA : A.heap[g]? = some (.cells #[I ep, s1, s2, s3, s4, s5, s6, s7] T (0, 0))) (hB : B.heap[g]? = some (.cells #[I ep, t1, t2, t3, t4, t5, t6, t7] T (0, 0)))
    (hs : Same (fun k => k ≠ g) A B) (hn : ∀ s ∈ [s1, s2, s3, s4, s5, s6, s7], ∀ n, s ≠ I n) : IntCells A B := by
  intro b n e
  by_cases hb : b.block = g
  · obtain ⟨bl, off, spot⟩ := b
    dsimp only at hb; subst hb
    unfold World.cell? at e ⊢
    dsimp only at e ⊢
    rw [hA] at e; rw [hB]
    dsimp only at e ⊢
    split at e
    · cases e
    · rename_i hsp
      rw [if_neg hsp]
      match off, e with
      | 0, e => exact e
      | 1, e => exact absurd (Option.some.inj e) (hn s1 (by simp) n)
      | 2, e => exact absurd (Option.some.inj e) (hn s2 (by simp) n)
      | 3, e => exact absurd (Option.some.inj e) (hn s3 (by simp) n)
      | 4, e => exact absurd (Option.some.inj e) (hn s4 (by simp) n)
      | 5, e => exact absurd (Option.some.inj e) (hn s5 (by simp) n)
      | 6, e => exact absurd (Option.some.inj e) (hn s6 (by simp) n)
      | 7, e => exact absurd (Option.some.inj e) (hn s7 (by simp) n)
      | k + 8, e => exact absurd e (by simp)
  · exact hs.cell hb e

abbrev encP (x : Pr) : List Value := [I x.kp, I x.no, I x.d, I x.e]
theorem encP_one (x : Pr) : ∀ u ∈ encP x, u.oneCell' = true := by intro u hu; simp at hu; rcases hu with rfl | rfl | rfl | rfl <;> rfl
theorem info_pair : (Tryz.prog.info? 85).map (fun i => (i.zero, i.size, i.bytes)) = some (some (.agg #[I 0, I 0, I 0, I 0]), 4, 32) := by kernel_rfl
theorem OwnOf.pairs {e : Nat} {W : World} {base : Nat} {v : Value} {xs : List Pr} (h : OwnOf e 4 encP W base v xs) (hm : xs.length ≤ 140737488355328) : Pairs W v xs :=
  h.sl (fun _ => rfl) PairE (fun a x hs hc => by
    have h0 := hc 0 (I x.kp) rfl
    have h1 := hc 1 (I x.no) rfl
    have h2 := hc 2 (I x.d) rfl
    have h3 := hc 3 (I x.e) rfl
    obtain ⟨b, o, s⟩ := a
    simp at hs; subst hs
    exact ⟨h0, h1, h2, h3, rfl⟩) hm
set_option maxRecDepth 1000000 in
theorem size_key (W : World) : (sizeOf 27).run Tryz.prog W = .ok 4 W := by rfl
/-- A key stored in a block. -/
theorem wpList_storeK {ops : Array Oper} {rest : List Oper} {o : Oper} {a : Act} {Q : Exit → Act → World → Prop} {W : World} (hgd : o.guard = none) (p x : Operand) (ho : o.op = .store 27 p x) (g : Nat) (a0 a1 a2 a3 a4 a5 a6 a7 : Value) (t : TypeId) (q : Quad)
    (hp : a.eval p = .pointer (some ⟨g, 0, none⟩)) (hx : a.eval x = .agg #[q.a, q.b, q.c, q.d]) (hrow : W.heap[g]? = some (.cells #[a0, a1, a2, a3, a4, a5, a6, a7] t (0, 0))) (h1 : ∀ u ∈ [q.a, q.b, q.c, q.d], u.oneCell' = true)
    (hk : ∀ W', Hid (W'.heap[g]? = some (.cells #[q.a, q.b, q.c, q.d, a4, a5, a6, a7] t (0, 0))) → Same (fun k => k ≠ g) W W' → W'.heap.size = W.heap.size → wpList Tryz.prog ops Q rest (a.put o.dst undef) W') : wpList Tryz.prog ops Q (o :: rest) a W := by
  refine wpList_plain hgd fun K hK => ?_
  have hrun : (storeVar 27 ⟨g, 0, none⟩ (.agg #[q.a, q.b, q.c, q.d])).run Tryz.prog W = .ok () (W.setRow g #[q.a, q.b, q.c, q.d, a4, a5, a6, a7]) := by
    have h := run_storeCells_at Tryz.prog g 0 t [q.a, q.b, q.c, q.d] 0 #[a0, a1, a2, a3, a4, a5, a6, a7] W hrow (by simp) h1
    simp only [Go.storeVar, Sem.run_bind, size_key, Result.andThen_ok]
    exact h
  have hk2 := hk _ (Lib.hid (setRow_heap W g _ _ t (0, 0) hrow)) ⟨rfl, rfl, rfl, by simp [World.setRow], fun i _ hi => setRow_other W g i _ hi⟩ (by simp [World.setRow])
  clear hk
  generalize W.setRow g #[q.a, q.b, q.c, q.d, a4, a5, a6, a7] = W' at *
  unfold Oper.wp
  simp [execOp, ho, hp, hx, Instr.storeAt, Instr.sureAddr, hrun, Result.andThen]
  exact hK _ _ hk2

end Go.Proofs.YtgacdmkhgllceaaGreatDoor
