/- The plain law of linear.Combine: its answer solves the equations; where it has none there is none. -/
import Derived.Test.YtgacdmkhgllceaaGreatDoorZLin6
import Derived.Test.YtgacdmkhgllceaaGreatDoorZProg4
import Derived.Test.YtgacdmkhgllceaaGreatDoorZSlices1
import Derived.Test.YtgacdmkhgllceaaGreatDoorZSign1
namespace Go.Proofs.YtgacdmkhgllceaaGreatDoor

theorem Sol.swapB {f : Nat → Nat → Int} {n mm r k : Nat} {y : Nat → Int} (hr : r < n) (hk : k < n) (h : Sol f n mm y) : Sol (swapR f r k) n mm y := by
  intro i hi
  unfold swapR
  by_cases e : i = r
  · simpa [e] using h k hk
  · by_cases e2 : i = k
    · simp only [if_neg e, if_pos e2]; exact h r hr
    · simp only [if_neg e, if_neg e2]; exact h i hi

/-- The equations' solutions are kept by a column of the reduction. -/
theorem Red.stepB {n m c : Nat} {s : (Nat → Nat → Int) × List Nat} (h : Red n m c s) (hc : c + 1 < m) {y : Nat → Int} (hy : Sol s.1 n (m - 1) y) : Sol (redStep n m s c).1 n (m - 1) y := by
  obtain ⟨f, ps⟩ := s
  obtain ⟨nrm, len, lt, inc, piv, zero⟩ := h
  dsimp only at nrm len lt inc piv zero hy
  rcases fz_cases f c n ps.length with ⟨k1, k2, k3, k4⟩ | ⟨k1, k2⟩
  · generalize hk : fz f c n ps.length = k at k1 k2 k3 k4
    have e : redStep n m (f, ps) c = (clrA (scaleP (swapR f ps.length k) ps.length c (m - c) (inv (swapR f ps.length k ps.length c))) ps.length c m n, ps ++ [c]) := by
      unfold redStep; rw [if_neg (by dsimp only; rw [hk]; omega)]; dsimp only; rw [hk]
    rw [e]
    dsimp only
    generalize hr : ps.length = r at *
    have hrn : r < n := by omega
    have h1 : Sol (swapR f r k) n (m - 1) y := hy.swapB hrn k2
    have f1r : swapR f r k r = f k := by unfold swapR; rw [if_pos rfl]
    have hz1 : ∀ j, j < c → swapR f r k r j = 0 := fun j hj => by rw [f1r]; exact zero k k1 k2 j hj
    have hne : swapR f r k r c ≠ 0 := by rw [f1r]; exact k3
    have hb : 0 ≤ swapR f r k r c ∧ swapR f r k r c < 1073741789 := by rw [f1r]; exact nrm k c k2 (by omega)
    generalize swapR f r k = f1 at *
    have hinv : md (f1 r c * inv (f1 r c)) = 1 := inv_mul (by omega) hb.2
    generalize inv (f1 r c) = nv at hinv ⊢
    have h2 : Sol (scaleP f1 r c (m - c) nv) n (m - 1) y := by
      refine Sol.row (f := scaleP f1 r c (m - c) nv) (f' := f1) r hrn nv (f1 r c) (by rw [Int.mul_comm]; exact hinv) (fun j hj => ?_) (fun i j hi => by unfold scaleP; rw [if_neg (fun h => hi h.1)]) h1
      unfold scaleP
      rcases Nat.lt_or_ge j c with q | q
      · rw [if_neg (by omega), hz1 j q, Int.mul_zero]
      · rw [if_pos ⟨rfl, q, by omega⟩]
        unfold mul
        rw [md_mul_right, Int.mul_comm (f1 r j), ← Int.mul_assoc, ← md_mul_left, hinv, Int.one_mul]
    have hz2 : ∀ j, j < c → scaleP f1 r c (m - c) nv r j = 0 := fun j hj => by unfold scaleP; rw [if_neg (by omega)]; exact hz1 j hj
    generalize scaleP f1 r c (m - c) nv = f2 at *
    refine Sol.combine (f := clrA f2 r c m n) (f' := f2) r hrn (fun i => if i < n then -(f2 i c) else 0) (fun i j hne hj => ?_) (fun j => ?_) h2
    · by_cases hi : i < n
      · rw [if_pos hi]
        unfold clrA
        rw [if_neg (c := r < n ∧ r ≠ r ∧ f2 r c ≠ 0 ∧ c ≤ j ∧ j < m) (fun h => h.2.1 rfl)]
        by_cases q : i < n ∧ i ≠ r ∧ f2 i c ≠ 0 ∧ c ≤ j ∧ j < m
        · rw [if_pos q]
          unfold add mul md; rw [Int.neg_mul]; omega
        · rw [if_neg q]
          by_cases q2 : f2 i c = 0
          · rw [q2, Int.neg_zero, Int.zero_mul, Int.sub_zero]
          · rw [hz2 j (by
              by_cases q3 : c ≤ j
              · exact absurd ⟨hi, hne, q2, q3, by omega⟩ q
              · omega), Int.mul_zero, Int.sub_zero]
      · rw [if_neg hi, Int.zero_mul, Int.sub_zero]
        unfold clrA; rw [if_neg (fun h => hi h.1)]
    · unfold clrA; rw [if_neg (fun h => h.2.1 rfl)]
  · have e : redStep n m (f, ps) c = (f, ps) := by
      unfold redStep; rw [if_pos (by dsimp only; rw [k1]; exact Nat.le_refl _)]
    rw [e]; exact hy

theorem redTo_sol {n m : Nat} {f : Nat → Nat → Int} (h : ∀ i j, i < n → j < m → 0 ≤ f i j ∧ f i j < 1073741789) {y : Nat → Int} (hy : Sol f n (m - 1) y) : ∀ c, c < m → Sol (redTo n m f c).1 n (m - 1) y
  | 0, _ => hy
  | c + 1, hc => (redTo_red h c (by omega)).1.stepB hc (redTo_sol h hy c (by omega))

/-- Combine's answer is one. -/
theorem sol_sound {rows : List (List Int)} {t : List Int} (hr : RightR rows t.length) (h1 : t.any oddQ = false) (hs : solB rows t = true) : Sol (tabF rows t) t.length rows.length (yTo (redF rows t) rows.length (redF rows t).2.length) := by
  obtain ⟨h2, h3⟩ := redTo_red (n := t.length) (m := rows.length + 1) (fun i j hi _ => tabF_bd hr h1 i j hi) rows.length (by omega)
  refine h3 _ (h2.solve fun k hk1 hk2 => ?_)
  unfold solB at hs
  rw [List.all_eq_true] at hs
  have := hs k (List.mem_range.2 hk2)
  unfold redF at this
  simp only [Bool.or_eq_true, decide_eq_true_eq, beq_iff_eq] at this
  rcases this with h | h
  · omega
  · exact h
/-- Where it gives none there is none. -/
theorem sol_none {rows : List (List Int)} {t : List Int} (hr : RightR rows t.length) (h1 : t.any oddQ = false) (hs : solB rows t = false) (y : Nat → Int) : ¬ Sol (tabF rows t) t.length rows.length y := by
  intro hy
  obtain ⟨h2, _⟩ := redTo_red (n := t.length) (m := rows.length + 1) (fun i j hi _ => tabF_bd hr h1 i j hi) rows.length (by omega)
  have h3 := redTo_sol (m := rows.length + 1) (fun i j hi _ => tabF_bd hr h1 i j hi) hy rows.length (by omega)
  unfold solB at hs
  rw [List.all_eq_false] at hs
  obtain ⟨k, hk, hx⟩ := hs
  have hk' := List.mem_range.1 hk
  unfold redF at hx
  simp only [Bool.or_eq_true, decide_eq_true_eq, beq_iff_eq, not_or] at hx
  have h4 := h3 k hk'
  rw [show rows.length + 1 - 1 = rows.length by omega] at h4
  rw [sumTo_zero rows.length (fun j hj => by rw [h2.zero k (by omega) hk' j hj, Int.zero_mul])] at h4
  have h5 := h2.nrm k rows.length hk' (by omega)
  rw [md_id h5] at h4
  exact hx.2 (by rw [← h4]; rfl)

theorem yTo_bd {n m : Nat} {s : (Nat → Nat → Int) × List Nat} (h : Red n m (m - 1) s) (hm : 0 < m) : ∀ q j, q ≤ s.2.length → 0 ≤ yTo s (m - 1) q j ∧ yTo s (m - 1) q j < 1073741789
  | 0, _, _ => by unfold yTo; decide
  | q + 1, j, hq => by
    show 0 ≤ upd _ _ _ _ ∧ upd _ _ _ _ < _
    by_cases e : j = s.2.getD q 0
    · subst e; rw [upd_same]; exact h.nrm q (m - 1) (by have := h.len; omega) (by omega)
    · rw [upd_ne _ _ e]; exact yTo_bd h hm q j (by omega)

end Go.Proofs.YtgacdmkhgllceaaGreatDoor

/- program.Accepts walked. -/
namespace Go.Proofs.YtgacdmkhgllceaaGreatDoor
open Go.RowKit Go.Shelf

theorem question_any (vr vo vw : Value) (rows : List (List Int)) (owners who : List Int) (w : World) (hr : Rows2 w vr rows) (ho : Ints w vo owners) (hw : Ints w vw who) (h0 : progErr rows owners = 0) (h1 : whoOk who (-1) = true) :
    Calls Tryz.prog 143 #[.agg #[vr, vo], vw] w fun e w' => ∃ ur ua ut, e = .returned (.tuple #[ur, ua, ut, I 0]) ∧ Rows2 w' ur (rowsOf rows owners who) ∧ Ints w' ua ((placesOf owners who rows.length).map fun i : Nat => (i : Int)) ∧ Ints w' ut (targetOf rows) ∧ Below w.heap.size w w' := by
  by_cases hn : rows.length = 0
  · exact question_zero vr vo vw rows owners who w hr ho hw h0 h1 hn
  · exact question_pos vr vo vw rows owners who w hr ho hw h0 h1 hn

theorem rowsOf_right {rows : List (List Int)} {owners who : List Int} (h0 : progErr rows owners = 0) : RightR (rowsOf rows owners who) (targetOf rows).length := by
  intro q hq
  unfold rowsOf at hq ⊢
  rw [List.length_map] at hq
  have hp : (placesOf owners who rows.length)[q] < rows.length := placesOf_lt (List.getElem_mem hq)
  obtain ⟨_, _, _, h4⟩ := progErr_zero h0
  obtain ⟨h5, _, h7, _⟩ := h4 _ hp
  have e6 : rows.getD (placesOf owners who rows.length)[q] [] = rows[(placesOf owners who rows.length)[q]] := by simp [hp]
  rw [List.getElem_map, e6]
  refine ⟨by simp [targetOf, h5], ?_⟩
  rw [List.any_eq_false]
  intro x hx
  have := h7 x hx
  unfold oddQ
  simp; omega

theorem targetOf_nums (rows : List (List Int)) : (targetOf rows).any oddQ = false := by
  rw [List.any_eq_false]
  intro x hx
  unfold targetOf at hx
  obtain ⟨j, _, rfl⟩ := List.mem_map.1 hx
  unfold oddQ
  split <;> simp

/-- Are people enough? -/
def accB (rows : List (List Int)) (owners who : List Int) : Bool := solB (rowsOf rows owners who) (targetOf rows)
/-- Numbers laid at their places. -/
def layTo (ps : List Nat) (l : List Int) : Nat → Nat → Int
  | 0 => fun _ => 0
  | q + 1 => upd (layTo ps l q) (ps.getD q 0) (l.getD q 0)
/-- The answer for rows that people own. -/
def accL (rows : List (List Int)) (owners who : List Int) : List Int := solY (rowsOf rows owners who) (targetOf rows) (redF (rowsOf rows owners who) (targetOf rows)).2.length
/-- With what each row is taken. -/
def accY (rows : List (List Int)) (owners who : List Int) : List Int := (List.range rows.length).map (layTo (placesOf owners who rows.length) (accL rows owners who) (placesOf owners who rows.length).length)

theorem accL_len (rows : List (List Int)) (owners who : List Int) : (accL rows owners who).length = (placesOf owners who rows.length).length := by simp [accL, solY, rowsOf]

set_option maxHeartbeats 1000000 in
theorem accepts_bad (vr vo vw : Value) (rows : List (List Int)) (owners : List Int) (w : World) (hr : Rows2 w vr rows) (ho : Ints w vo owners) (hw : ∃ A n c, vw = .slice A n c) (h0 : progErr rows owners ≠ 0) :
    Calls Tryz.prog 76 #[.agg #[vr, vo], vw] w fun e w' => e = .returned (.tuple #[.slice none 0 0, .bool false, I (progErr rows owners)]) ∧ Below w.heap.size w w' := by
  obtain ⟨A, ca, rfl, hma⟩ := hr.shape
  obtain ⟨B, cb, rfl, hmb⟩ := ho.shape
  obtain ⟨C, nc, cc, rfl⟩ := hw
  have hb0 : Below w.heap.size w (w.alloc (.cells #[.slice A rows.length ca, .slice B owners.length cb] 25)) := (Below.refl _ w).alloc (Nat.le_refl _) _
  have HR := Lib.hid (hr.below hb0)
  have HO := Lib.hid (ho.below hb0)
  have H0 := Lib.hid h0
  have HB0 := Lib.hid hb0
  have g0 : (progErr rows owners != 0) = true := bne_iff_ne.2 h0
  clear hr ho h0 hb0
  go_enter Tryz.func76, Tryz.ntmps76
  go_wp2_with fail
  refine (question_bad _ _ _ rows owners _ HR.out HO.out ⟨_, _, _, rfl⟩ H0.out).mono ?_
  rintro e w1 ⟨rfl, hb1⟩
  have HB1 := Lib.hid (below_step HB0.out hb1)
  clear hb1
  go_wp2
  go_ret3
  exact ⟨rfl, HB1.out⟩

set_option maxHeartbeats 1000000 in
theorem accepts_arg (vr vo vw : Value) (rows : List (List Int)) (owners who : List Int) (w : World) (hr : Rows2 w vr rows) (ho : Ints w vo owners) (hw : Ints w vw who) (h0 : progErr rows owners = 0) (h1 : whoOk who (-1) = false) :
    Calls Tryz.prog 76 #[.agg #[vr, vo], vw] w fun e w' => e = .returned (.tuple #[.slice none 0 0, .bool false, I 1]) ∧ Below w.heap.size w w' := by
  obtain ⟨A, ca, rfl, hma⟩ := hr.shape
  obtain ⟨B, cb, rfl, hmb⟩ := ho.shape
  obtain ⟨C, cc, rfl, hmc⟩ := hw.shape
  have hb0 : Below w.heap.size w (w.alloc (.cells #[.slice A rows.length ca, .slice B owners.length cb] 25)) := (Below.refl _ w).alloc (Nat.le_refl _) _
  have HR := Lib.hid (hr.below hb0)
  have HO := Lib.hid (ho.below hb0)
  have HW := Lib.hid (hw.below hb0)
  have H0 := Lib.hid h0
  have H1 := Lib.hid h1
  have HB0 := Lib.hid hb0
  clear hr ho hw h0 h1 hb0
  go_enter Tryz.func76, Tryz.ntmps76
  go_wp2_with fail
  refine (question_arg _ _ _ rows owners who _ HR.out HO.out HW.out H0.out H1.out).mono ?_
  rintro e w1 ⟨rfl, hb1⟩
  have HB1 := Lib.hid (below_step HB0.out hb1)
  clear hb1
  go_wp2
  go_ret3
  exact ⟨rfl, HB1.out⟩

set_option maxHeartbeats 2000000 in
theorem accepts_any (vr vo vw : Value) (rows : List (List Int)) (owners who : List Int) (w : World) (hr : Rows2 w vr rows) (ho : Ints w vo owners) (hw : Ints w vw who) (h0 : progErr rows owners = 0) (h1 : whoOk who (-1) = true) :
    Calls Tryz.prog 76 #[.agg #[vr, vo], vw] w fun e w' => ∃ vy, e = .returned (.tuple #[vy, .bool (accB rows owners who), I 0]) ∧ (accB rows owners who = true → Ints w' vy (accY rows owners who)) ∧ (∀ k, vy.ownBlock = some k → w.heap.size ≤ k) ∧ Below w.heap.size w w' := by
  obtain ⟨A, ca, rfl, hma⟩ := hr.shape
  obtain ⟨B, cb, rfl, hmb⟩ := ho.shape
  obtain ⟨C, cc, rfl, hmc⟩ := hw.shape
  have hcp := cols_pos h0
  have h64 := (progErr_zero h0).1
  have hpl := placesOf_len owners who rows.length
  have hb0 : Below w.heap.size w (w.alloc (.cells #[.slice A rows.length ca, .slice B owners.length cb] 25)) := (Below.refl _ w).alloc (Nat.le_refl _) _
  have hc0 : (w.alloc (.cells #[.slice A rows.length ca, .slice B owners.length cb] 25)).cell? ⟨w.heap.size, 0, none⟩ = some (.slice A rows.length ca) := by rw [World.cell?_alloc_new]; rfl
  have HR := Lib.hid (hr.below hb0)
  have HO := Lib.hid (ho.below hb0)
  have HW := Lib.hid (hw.below hb0)
  have HC0 := Lib.hid hc0
  have H0 := Lib.hid h0
  have H1 := Lib.hid h1
  have HB0 := Lib.hid hb0
  have HCP := Lib.hid hcp
  obtain ⟨i0, hi0, hzz⟩ := Option.map_eq_some_iff.1 info_int
  simp only [Prod.mk.injEq] at hzz
  have HI := Lib.hid hi0
  have HZ := Lib.hid hzz
  clear hr ho hw h0 h1 hb0 hcp hc0 hi0 hzz
  go_enter Tryz.func76, Tryz.ntmps76
  go_wp2_with fail
  refine (question_any _ _ _ rows owners who _ HR.out HO.out HW.out H0.out H1.out).mono ?_
  rintro e w1 ⟨ur, ua, ut, rfl, hur, hua, hut, hb1⟩
  have HB1 := Lib.hid (below_step HB0.out hb1)
  have HC1 := Lib.hid (keep hb1 HC0.out)
  have HUR := Lib.hid hur
  have HUA := Lib.hid hua
  have HUT := Lib.hid hut
  obtain ⟨A1, c1, e1, _⟩ := hur.shape
  obtain ⟨A2, c2, e2, _⟩ := hua.shape
  obtain ⟨A3, c3, e3, _⟩ := hut.shape
  subst e1 e2 e3
  clear hb1 hur hua hut
  go_wp2_with fail
  refine (combine_any _ _ (rowsOf rows owners who) (targetOf rows) _ HUR.out HUT.out (rowsOf_right H0.out) (targetOf_nums rows) (by have := HCP.out; simp [targetOf]; omega) (by simp [rowsOf]; omega)).mono ?_
  rintro e w2 ⟨vy, rfl, hvy, hb2⟩
  have HB2 := Lib.hid (below_step HB1.out hb2)
  have hc2 := keep hb2 HC1.out
  have HUA2 := Lib.hid (HUA.out.below hb2)
  have HVY := Lib.hid hvy
  clear hvy hb2
  cases hs : solB (rowsOf rows owners who) (targetOf rows) with
  | false =>
    have E : Hid (accB rows owners who = false) := Lib.hid hs
    clear hs
    go_wp2
    go_ret3
    exact ⟨.slice none 0 0, by rw [E.out]; rfl, (fun h => absurd h (by rw [E.out]; decide)), (fun k e => by cases e), HB2.out⟩
  | true =>
    have E : Hid (accB rows owners who = true) := Lib.hid hs
    have hl := HVY.out hs
    have HL : Hid (Ints w2 vy (accL rows owners who)) := Lib.hid hl
    obtain ⟨A4, c4, e4, _⟩ := HL.out.shape
    have HLEN := Lib.hid (accL_len rows owners who)
    subst e4
    clear hs hl
    rw [HLEN.out] at HL ⊢
    go_wp2_with (at_make; refine wpList_make_full _ rfl _ _ 23 (by rfl) w2.heap.size 3 i0 (I 0) 1 Tryz.underlying23 HI.out HZ.out.1 HZ.out.2.1 .i64 .i64 _ _ rows.length (by rfl) (by rfl) rfl rfl (by rw [HZ.out.2.2]; omega) (by simp only [maxLen]; omega) (Nat.le_refl _) ?_; intro w3 hown3 hgrow3)
    have HR3 := Lib.hid (RowC.zeros hown3)
    have HB3 : Hid (Below w2.heap.size w2 w3) := Lib.hid ((Below.refl w2.heap.size w2).grown hgrow3 (Nat.le_refl _) (fun k hk => by (cases hk)))
    clear hown3 hgrow3
    generalize hnp : (placesOf owners who rows.length).length = np at *
    have HNP := Lib.hid hnp
    clear hnp
    go_loopw [11, 12, 44] (fun _ _ j wr => ∃ q : Nat, q ≤ np ∧ j = I q ∧ Hid (RowC wr w2.heap.size rows.length (layTo (placesOf owners who rows.length) (accL rows owners who) q)) ∧ Hid (Below w2.heap.size w2 wr)) (fun _ _ j _ => np - (intOf j).toNat)
    case atStart => exact ⟨0, Nat.zero_le _, rfl, HR3, HB3⟩
    case round =>
      obtain ⟨q, hq, rfl, hrow, hbw⟩ := hrel
      by_cases hlt : q < np
      · have hlt2 : q < (placesOf owners who rows.length).length := by rw [HNP.out]; exact hlt
        have hpl2 : (placesOf owners who rows.length).getD q 0 < rows.length := by
          have e : (placesOf owners who rows.length).getD q 0 = (placesOf owners who rows.length)[q] := by simp [hlt2]
          rw [e]; exact placesOf_lt (List.getElem_mem hlt2)
        obtain ⟨ad2, e2, hc3⟩ := (HUA2.out.below hbw.out).at q (by rw [List.length_map]; exact hlt2)
        rw [getD_map_int hlt2] at hc3
        have hll : q < (accL rows owners who).length := by rw [accL_len, HNP.out]; exact hlt
        obtain ⟨ad4, e4, hc4⟩ := (HL.out.below hbw.out).at q hll
        have hg : (accL rows owners who).getD q 0 = (accL rows owners who)[q] := by simp [hll]
        rw [← hg] at hc4
        obtain ⟨pq, hpq⟩ : ∃ pq, pq = (placesOf owners who rows.length).getD q 0 := ⟨_, rfl⟩
        obtain ⟨vq, hvq⟩ : ∃ vq, vq = (accL rows owners who).getD q 0 := ⟨_, rfl⟩
        have HNX : Hid (RowC (wr.setCell ⟨w2.heap.size, pq, none⟩ (I vq)) w2.heap.size rows.length (layTo (placesOf owners who rows.length) (accL rows owners who) (q + 1))) := Lib.hid (by
          show RowC _ _ _ (upd _ ((placesOf owners who rows.length).getD q 0) ((accL rows owners who).getD q 0))
          rw [← hpq, ← hvq]; exact hrow.out.set (by rw [hpq]; exact hpl2) _)
        rw [← hpq] at hc3 hpl2
        rw [← hvq] at hc4
        subst e2 e4
        have cy := hrow.out.cell _ hpl2
        have fy := hrow.out.free _ hpl2
        have HBX := Lib.hid (hbw.out.setCell (p := ⟨w2.heap.size, pq, none⟩) (Nat.le_refl _) (I vq))
        clear hpq hvq hg hll hlt2
        go_wp2
        go_roundw
        case rel => exact ⟨q + 1, by omega, by go_num, HNX, HBX⟩
        case measure => simp [intOf]; omega
      · obtain rfl : q = np := by omega
        have HFIN := Lib.hid (below_step HB2.out hbw.out)
        go_wp2
        go_ret3
        refine ⟨_, by rw [E.out]; rfl, fun _ => ?_, (fun k e => by have e2 : some w2.heap.size = some k := e; injection e2 with e2; have := HB2.out.size; omega), HFIN.out⟩
        have := hrow.out.ints (by omega) (Nat.le_refl _)
        unfold accY
        rw [HNP.out]
        exact this

end Go.Proofs.YtgacdmkhgllceaaGreatDoor

/- partial.begin walked: what is refused at once. -/
namespace Go.Proofs.YtgacdmkhgllceaaGreatDoor
open Go.RowKit Go.Shelf

/-- What is refused ahead of the pairs. -/
noncomputable def earlyE (ep : Int) (rows : List (List Int)) (owners commits : List Int) (tl pl : Nat) : Int :=
  if progErr rows owners ≠ 0 then progErr rows owners else if keyR ep rows commits = false then 380 else if 65536 < tl then 2 else if 64 < pl then 420 else 0

set_option maxRecDepth 100000 in
set_option maxHeartbeats 1000000 in
theorem begin_early (ep : Int) (vr vo vc vt vp : Value) (rows : List (List Int)) (owners commits : List Int) (txt : List UInt8) (ps : List Pr) (w : World) (hr : Rows2 w vr rows) (ho : Ints w vo owners) (hc : Ints w vc commits) (ht : Bytes w vt txt) (hp : Pairs w vp ps)
    (he : earlyE ep rows owners commits txt.length ps.length ≠ 0) :
    Calls Tryz.prog 48 #[.agg #[I ep, vr, vo, vc], vt, vp] w fun e w' => e = .returned (.tuple #[.pointer none, I (earlyE ep rows owners commits txt.length ps.length)]) ∧ Below w.heap.size w w' := by
  obtain ⟨At, ct, rfl, hmt⟩ := ht.shape
  obtain ⟨Ap, cp, rfl, hmp⟩ := hp.shape
  obtain ⟨W, hW⟩ : ∃ W, w.alloc (.cells #[I ep, vr, vo, vc] 27) = W := ⟨_, rfl⟩
  have b0 : W.cell? ⟨w.heap.size, 0, none⟩ = some (I ep) := by rw [← hW, World.cell?_alloc_new]; rfl
  have b1 : W.cell? ⟨w.heap.size, 1, none⟩ = some vr := by rw [← hW, World.cell?_alloc_new]; rfl
  have b2 : W.cell? ⟨w.heap.size, 2, none⟩ = some vo := by rw [← hW, World.cell?_alloc_new]; rfl
  have b3 : W.cell? ⟨w.heap.size, 3, none⟩ = some vc := by rw [← hW, World.cell?_alloc_new]; rfl
  have hba : Below w.heap.size w W := by rw [← hW]; exact (Below.refl _ w).alloc (Nat.le_refl _) _
  have HB := Lib.hid hba
  have HR := Lib.hid (hr.below hba)
  have HO := Lib.hid (ho.below hba)
  have HC := Lib.hid (hc.below hba)
  clear hr ho hc hba ht hp hmt hmp
  go_enter Tryz.func48, Tryz.ntmps48
  go_wp2_with fail
  refine (progCheck_any _ _ rows owners _ HR.out HO.out).mono ?_
  rintro e w1 ⟨rfl, hb1⟩
  replace b0 := keep hb1 b0
  replace b1 := keep hb1 b1
  replace b2 := keep hb1 b2
  replace b3 := keep hb1 b3
  have HB1 := Lib.hid (below_step HB.out hb1)
  have HR1 := Lib.hid (HR.out.below hb1)
  have HC1 := Lib.hid (HC.out.below hb1)
  clear hb1 hW
  by_cases q1 : progErr rows owners = 0
  · have g1 : (progErr rows owners != 0) = false := by rw [q1]; rfl
    have Q1 := Lib.hid q1
    have HE := Lib.hid he
    clear q1 he
    go_wp2_with fail
    refine (keyRight_any ep _ _ _ rows commits _ HR1.out HC1.out).mono ?_
    rintro e w2 ⟨rfl, hb2⟩
    have HB2 : Hid (Below w.heap.size w w2) := Lib.hid (HB1.out.trans (hb2.mono HB1.out.size))
    clear hb2
    cases q2 : keyR ep rows commits with
    | false =>
      have E : Hid (earlyE ep rows owners commits txt.length ps.length = 380) := Lib.hid (by unfold earlyE; rw [if_neg (by rw [Q1.out]; decide), if_pos q2])
      clear b0 b1 b2 b3
      go_wp2
      go_ret2
      exact ⟨by rw [E.out]; rfl, HB2.out⟩
    | true =>
      have E0 : Hid (earlyE ep rows owners commits txt.length ps.length = if 65536 < txt.length then 2 else if 64 < ps.length then 420 else 0) := Lib.hid (by unfold earlyE; rw [if_neg (by rw [Q1.out]; decide), if_neg (by rw [q2]; decide)])
      clear b0 b1 b2 b3 q2
      by_cases q3 : 65536 < txt.length
      · have g3 : (65536 : Int) < txt.length := by omega
        have E : Hid (earlyE ep rows owners commits txt.length ps.length = 2) := Lib.hid (by rw [E0.out, if_pos q3])
        go_wp2
        go_ret2
        exact ⟨by rw [E.out]; rfl, HB2.out⟩
      · have g3 : (txt.length : Int) ≤ 65536 := by omega
        by_cases q4 : 64 < ps.length
        · have g4 : (64 : Int) < ps.length := by omega
          have E : Hid (earlyE ep rows owners commits txt.length ps.length = 420) := Lib.hid (by rw [E0.out, if_neg q3, if_pos q4])
          go_wp2
          go_ret2
          exact ⟨by rw [E.out]; rfl, HB2.out⟩
        · exact absurd (by rw [E0.out, if_neg q3, if_neg q4]) HE.out
  · have g1 : (progErr rows owners != 0) = true := bne_iff_ne.2 q1
    have E : Hid (earlyE ep rows owners commits txt.length ps.length = progErr rows owners) := Lib.hid (by unfold earlyE; rw [if_pos q1])
    clear he q1 b0 b1 b2 b3
    go_wp2
    go_ret2
    exact ⟨by rw [E.out]; rfl, HB1.out⟩

end Go.Proofs.YtgacdmkhgllceaaGreatDoor
