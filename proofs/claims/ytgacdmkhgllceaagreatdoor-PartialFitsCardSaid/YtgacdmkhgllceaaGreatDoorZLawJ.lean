/- signatorylaw42.PartialFits walked. -/
import Derived.Test.YtgacdmkhgllceaaGreatDoorZLawI
namespace Go.Proofs.YtgacdmkhgllceaaGreatDoor
open Go.RowKit Go.Shelf

/-- What Fits says of an honest keeper. -/
theorem fits_honest {rows : List (List Int)} {owners s : List Int} {L : List Kp} {txt : List UInt8} (h : Honest rows owners s L txt) (i : Nat) (hi : i < L.length) (v : Int) (hv : 0 ≤ v ∧ v < 1073741789) {e : Ending} (he : FitsR 0 rows owners (commitsOf s) txt (L.map Kp.pr) L[i].kp v e) :
    e = .returned (.tuple #[.bool (decide (v = h.z L[i])), I 0]) := by
  have ho : oddQ v = false := by unfold oddQ; simp; omega
  rcases he with ⟨hb, _⟩ | ⟨_, hc, _⟩ | ⟨_, _, j, hj, hidx, rfl⟩
  · exact absurd h.beg hb
  · rw [ho, h.idx_kp i hi] at hc
    rcases hc with hc | hc
    · omega
    · cases hc
  · rw [h.idx_kp i hi] at hidx
    have hij : i = j := by omega
    subst hij
    have e1 : (L.map Kp.pr)[i] = L[i].pr := by simp
    rw [e1, h.fit L[i] (List.getElem_mem hi) v hv]
theorem kps_at (who ns : List Int) (i : Nat) (hi : i < who.length) : ∃ h : i < (kpsOf who ns).length, (kpsOf who ns)[i].kp = who[i] := by
  have h : i < (kpsOf who ns).length := by simpa [kpsOf] using hi
  refine ⟨h, ?_⟩
  have e := kpsOf_kp who ns
  have e2 : ((kpsOf who ns).map Kp.kp)[i]'(by simpa using h) = who[i] := by simp only [e]
  simpa using e2
theorem fits_at {rows : List (List Int)} {owners s who ns : List Int} {txt : List UInt8} (h : Honest rows owners s (kpsOf who ns) txt) (k : Nat) (hk : k < who.length) (v : Int) (hv : 0 ≤ v ∧ v < 1073741789) {e : Ending}
    (he : FitsR 0 rows owners (commitsOf s) txt ((kpsOf who ns).map Kp.pr) who[k] v e) : e = .returned (.tuple #[.bool (decide (v = ((kpsOf who ns).map h.z).getD k 0)), I 0]) := by
  obtain ⟨hi, e1⟩ := kps_at who ns k hk
  rw [← e1] at he
  rw [fits_honest h k hi v hv he]
  have e2 : ((kpsOf who ns).map h.z).getD k 0 = h.z (kpsOf who ns)[k] := by simp [hi]
  rw [e2]
theorem zs_bd {rows : List (List Int)} {owners s who ns : List Int} {txt : List UInt8} (h : Honest rows owners s (kpsOf who ns) txt) (k : Nat) (hk : k < who.length) : 0 ≤ ((kpsOf who ns).map h.z).getD k 0 ∧ ((kpsOf who ns).map h.z).getD k 0 < 1073741789 := by
  obtain ⟨hi, _⟩ := kps_at who ns k hk
  have e2 : ((kpsOf who ns).map h.z).getD k 0 = h.z (kpsOf who ns)[k] := by simp [hi]
  rw [e2]
  exact h.z_bd _ (List.getElem_mem hi)

set_option maxRecDepth 100000 in
set_option maxHeartbeats 4000000 in
theorem fits_law (vr vo vx vn vt : Value) (rows : List (List Int)) (owners : List Int) (secret b other : Int) (random nonces : List Int) (txt : List UInt8) (w : World) (hr : Rows2 w vr rows) (ho : Ints w vo owners) (hx : U32s w vx random) (hn : U32s w vn nonces) (ht : Bytes w vt txt) (hg : Glob w)
    (hs0 : 0 ≤ secret) (hs1 : secret < 4294967296) (hm0 : 0 ≤ b) (hm1 : b < 65536) (ho0 : 0 ≤ other) (ho1 : other < 4294967296) :
    Calls Tryz.prog 6 #[.agg #[vr, vo], .int .u32 secret, vx, vn, .int .u16 b, vt, .int .u32 other] w fun e w' => e = .returned (.bool true) ∧ Below w.heap.size w w' := by
  obtain ⟨Ar, cr, rfl, _⟩ := hr.shape
  obtain ⟨Bo, co, rfl, _⟩ := ho.shape
  obtain ⟨At, ct, rfl, htm⟩ := ht.shape
  have hba : Below w.heap.size w (w.alloc (.cells #[.slice Ar rows.length cr, .slice Bo owners.length co] 25)) := (Below.refl _ _).alloc (Nat.le_refl _) _
  have p0 : (w.alloc (.cells #[.slice Ar rows.length cr, .slice Bo owners.length co] 25)).cell? ⟨w.heap.size, 0, none⟩ = some (.slice Ar rows.length cr) := by rw [World.cell?_alloc_new]; rfl
  have p1 : (w.alloc (.cells #[.slice Ar rows.length cr, .slice Bo owners.length co] 25)).cell? ⟨w.heap.size, 1, none⟩ = some (.slice Bo owners.length co) := by rw [World.cell?_alloc_new]; rfl
  obtain ⟨W, hW⟩ : ∃ W, w.alloc (.cells #[.slice Ar rows.length cr, .slice Bo owners.length co] 25) = W := ⟨_, rfl⟩
  rw [hW] at hba p0 p1
  have HB := Lib.hid hba
  have HR := Lib.hid hr
  have HO := Lib.hid ho
  have HX := Lib.hid hx
  have HN := Lib.hid hn
  have HT := Lib.hid ht
  have HG := Lib.hid hg
  clear hr ho hx hn ht hg hba
  go_enter Tryz.func6, Tryz.ntmps6
  go_wp2_with fail
  refine (sane_law W (HG.out.below HB.out)).mono ?_
  rintro e w1 ⟨rfl, hb1⟩
  have HB1 : Hid (Below w.heap.size w w1) := Lib.hid (HB.out.trans (hb1.mono HB.out.size))
  replace p0 := keep hb1 p0
  replace p1 := keep hb1 p1
  clear hb1 hW
  go_wp2_with fail
  refine (begun_law _ _ _ _ rows owners secret b random nonces w1 (HR.out.below HB1.out) (HO.out.below HB1.out) (HX.out.below HB1.out) (HN.out.below HB1.out) hs0 hs1 hm0 hm1).mono ?_
  rintro e w2 ⟨hbr, hb2⟩
  have HB2 : Hid (Below w.heap.size w w2) := Lib.hid (HB1.out.trans (hb2.mono HB1.out.size))
  clear hb2 p0 p1
  rcases hbr with ⟨_, A, n, c, rfl⟩ | ⟨hu, vc, vs, vw, vp, vn2, rfl, htab⟩
  · have HBF := Lib.hid (HB2.out.alloc HB2.out.size (.cells (tabC 0 nilS nilS nilS nilS (.slice A n c) nilS nilS) 46))
    go_wp2
    go_ret
    exact ⟨rfl, HBF.out⟩
  · obtain ⟨Ac, cc, ec, _⟩ := htab.c.shape
    generalize (List.length _) = nc at ec
    subst ec
    obtain ⟨As, cs, es, _⟩ := htab.s.shape
    generalize (List.length _) = ns at es
    subst es
    obtain ⟨Aw, cw, ewh, _⟩ := htab.wh.shape
    generalize (List.length _) = nwh at ewh
    subst ewh
    obtain ⟨Ap, cp, ep, _⟩ := htab.p.shape
    generalize (List.length _) = np at ep
    subst ep
    obtain ⟨An, cn, en, _⟩ := htab.n.shape
    generalize (List.length _) = nn at en
    subst en
    have HU := Lib.hid hu
    have HTAB := Lib.hid htab
    clear hu htab
    by_cases hlen : 300 < txt.length
    · have hl2 : (300 : Int) < (txt.length : Int) := by omega
      have HBF := fun o => Lib.hid (HB2.out.alloc HB2.out.size o)
      clear hlen
      go_wp2
      go_ret
      exact ⟨rfl, (HBF _).out⟩
    · have hl2 : ¬ (300 : Int) < (txt.length : Int) := by omega
      have HH := Lib.hid (honest_of HU.out secret random nonces txt (by omega))
      clear hlen
      go_wp2_with fail
      have HBT : Hid (Below w2.heap.size w2 (w2.alloc (.cells (tabC 0 (.slice Ar rows.length cr) (.slice Bo owners.length co) (.slice Ac nc cc) (.slice As ns cs) (.slice Aw nwh cw) (.slice Ap np cp) (.slice An nn cn)) 46))) := Lib.hid ((Below.refl _ _).alloc (Nat.le_refl _) _)
      have HPE : Hid (progErr rows owners = 0) := Lib.hid HH.out.prog
      have HRL : Hid (rows.length = owners.length ∧ rows.length ≤ 64) := Lib.hid ⟨HH.out.rl, (progErr_zero HPE.out).1⟩
      have HWL := Lib.hid (whoTo_len b 16)
      refine (parts_law 0 _ _ _ _ _ _ _ _ rows owners (commitsOf (secOf rows secret random)) (dealt rows (secOf rows secret random)) (whoTo b 16) ((kpsOf (whoTo b 16) (numsOf (2 * (whoTo b 16).length) nonces)).map Kp.pr) (numsOf (2 * (whoTo b 16).length) nonces) txt ((kpsOf (whoTo b 16) (numsOf (2 * (whoTo b 16).length) nonces)).map HH.out.z) _ (HTAB.out.below HBT.out) ((HT.out.below HB2.out).below HBT.out) ((HG.out.below HB2.out).below HBT.out)
        (dealt_rows rows _ _ HRL.out.1) (by rw [dealt_len]; have := HRL.out.2; omega) (by have := HWL.out; omega) (numsOf_len _ _) (by simp [kpsOf]) (honest_makes HH.out)).mono ?_
      rintro e w3 ⟨u, rfl, hu, _, hb3⟩
      have HB3 : Hid (Below w.heap.size w w3) := Lib.hid (HB2.out.trans ((HBT.out.trans (hb3.mono HBT.out.size)).mono HB2.out.size))
      have HB23 : Hid (Below w2.heap.size w2 w3) := Lib.hid (HBT.out.trans (hb3.mono HBT.out.size))
      have hcell : ∀ (j : Nat) (v : Value), (tabC 0 (.slice Ar rows.length cr) (.slice Bo owners.length co) (.slice Ac nc cc) (.slice As ns cs) (.slice Aw nwh cw) (.slice Ap np cp) (.slice An nn cn))[j]? = some v → w3.cell? ⟨w2.heap.size, j, none⟩ = some v := fun j v e => keep hb3 (by rw [World.cell?_alloc_new]; exact e)
      have q0 := hcell 0 _ rfl
      have q1 := hcell 1 _ rfl
      have q2 := hcell 2 _ rfl
      have q3 := hcell 3 _ rfl
      have q5 := hcell 5 _ rfl
      have q6 := hcell 6 _ rfl
      have HFT : Hid (∀ (k : Nat) (hk : k < (whoTo b 16).length) (v : Int), 0 ≤ v ∧ v < 1073741789 → ∀ e, FitsR 0 rows owners (commitsOf (secOf rows secret random)) txt ((kpsOf (whoTo b 16) (numsOf (2 * (whoTo b 16).length) nonces)).map Kp.pr) (whoTo b 16)[k] v e → e = .returned (.tuple #[.bool (decide (v = ((kpsOf (whoTo b 16) (numsOf (2 * (whoTo b 16).length) nonces)).map HH.out.z).getD k 0)), I 0])) := Lib.hid (fun k hk v hv e he => fits_at HH.out k hk v hv he)
      have HZB : Hid (∀ k, k < (whoTo b 16).length → 0 ≤ ((kpsOf (whoTo b 16) (numsOf (2 * (whoTo b 16).length) nonces)).map HH.out.z).getD k 0 ∧ ((kpsOf (whoTo b 16) (numsOf (2 * (whoTo b 16).length) nonces)).map HH.out.z).getD k 0 < 1073741789) := Lib.hid (fun k hk => zs_bd HH.out k hk)
      have HZL : Hid (((kpsOf (whoTo b 16) (numsOf (2 * (whoTo b 16).length) nonces)).map HH.out.z).length = (whoTo b 16).length) := Lib.hid (by simp [kpsOf])
      have HZ := Lib.hid hu
      have HWH := Lib.hid (HTAB.out.wh.below HB23.out)
      have HPS := Lib.hid (HTAB.out.p.below HB23.out)
      have HCM := Lib.hid (HTAB.out.c.below HB23.out)
      clear hu hcell hb3 HTAB
      generalize (kpsOf (whoTo b 16) (numsOf (2 * (whoTo b 16).length) nonces)).map HH.out.z = zs at *
      clear HH HU
      generalize (kpsOf (whoTo b 16) (numsOf (2 * (whoTo b 16).length) nonces)).map Kp.pr = ps at *
      generalize commitsOf (secOf rows secret random) = commits at *
      generalize whoTo b 16 = who at *
      have hnw : nwh = who.length := by
        obtain ⟨A', c', e, _⟩ := HWH.out
        injection e
      subst hnw
      obtain ⟨Az, cz, rfl, _⟩ := HZ.out.shape
      have HX0 : Hid (0 ≤ other % 1073741789 ∧ other % 1073741789 < 1073741789) := Lib.hid (by omega)
      clear HBT
      go_wp2
      go_loopw [20, 21, 22, 23, 24, 25, 64] (fun _ _ _ _ _ _ v64 wr => ∃ k : Nat, k ≤ who.length ∧ v64 = I k ∧ Hid (Below w3.heap.size w3 wr)) (fun _ _ _ _ _ _ v64 _ => who.length - (intOf v64).toNat)
      case atStart => exact ⟨0, Nat.zero_le _, rfl, Lib.hid (Below.refl _ _)⟩
      case round =>
        obtain ⟨k, hk, rfl, hbw⟩ := hrel
        by_cases hlt : k < who.length
        · obtain ⟨aw, rfl, hcw⟩ := (HWH.out.below hbw.out).at k hlt
          obtain ⟨az, rfl, hcz⟩ := (HZ.out.below hbw.out).at k (by rw [HZL.out]; exact hlt)
          have HFK := Lib.hid (HFT.out k hlt)
          have HZK : Hid (0 ≤ zs.getD k 0 ∧ zs.getD k 0 < 1073741789) := Lib.hid (HZB.out k hlt)
          have hzl : (k : Int) < (zs.length : Int) := by rw [HZL.out]; omega
          have hgz : zs[k]'(by rw [HZL.out]; exact hlt) = zs.getD k 0 := by simp [show k < zs.length by rw [HZL.out]; exact hlt]
          rw [hgz] at hcz
          clear hgz
          generalize zs.getD k 0 = z at *
          generalize who[k] = kp at *
          replace q0 := keep hbw.out q0
          replace q1 := keep hbw.out q1
          replace q2 := keep hbw.out q2
          replace q3 := keep hbw.out q3
          replace q5 := keep hbw.out q5
          replace q6 := keep hbw.out q6
          go_wp2
          refine Rely.regionB _ _ (by kernel_rfl) [0,1,2,3,4,5,6,7,8,9,10,11,12,13] [] [14,15] (fun _ _ _ => True) (fun _ => True) (by kernel_rfl) (fun _ _ => trivial) ?_
          (refine Rely.Fx.run ?rlc1 rfl rfl (fun _ _ => ?rlh1) ?rlk1; (case rlh1 => (go_simp; try rfl)); go_simp)
          (refine Rely.Fx.load ?rlca rfl (by kernel_rfl) rfl (Rely.Stab.refl _ _ _) (fun _ hb => ?rlha) ?rlka; (case rlha => (have hr0 := (hb.cell (cell_old q0)).trans q0; have hr1 := (hb.cell (cell_old q1)).trans q1; have hr2 := (hb.cell (cell_old q2)).trans q2; have hr3 := (hb.cell (cell_old q3)).trans q3; go_simp; try rfl)); go_simp)
          (refine Rely.Fx.run ?rlc2 rfl rfl (fun _ _ => ?rlh2) ?rlk2; (case rlh2 => (go_simp; try rfl)); go_simp)
          (refine Rely.Fx.run ?rlc3 rfl rfl (fun _ _ => ?rlh3) ?rlk3; (case rlh3 => (go_simp; try rfl)); go_simp)
          (refine Rely.Fx.load ?rlc4 rfl (by kernel_rfl) rfl (Rely.Stab.refl _ _ _) (fun _ hb => ?rlh4) ?rlk4; (case rlh4 => (have hrl := (hb.cell (cell_old q6)).trans q6; go_simp; try rfl)); go_simp)
          (refine Rely.Fx.run ?rlc5 rfl rfl (fun _ _ => ?rlh5) ?rlk5; (case rlh5 => (go_simp; try rfl)); go_simp)
          (refine Rely.Fx.run ?rlc6 rfl rfl (fun _ _ => ?rlh6) ?rlk6; (case rlh6 => (go_simp; try rfl)); go_simp)
          (refine Rely.Fx.run ?rlc7 rfl rfl (fun _ _ => ?rlh7) ?rlk7; (case rlh7 => (go_simp; try rfl)); go_simp)
          (refine Rely.Fx.run ?rlc8 rfl rfl (fun _ _ => ?rlh8) ?rlk8; (case rlh8 => (go_simp; try rfl)); go_simp)
          (refine Rely.Fx.load ?rlc9 rfl (by kernel_rfl) rfl (Rely.Stab.refl _ _ _) (fun _ hb => ?rlh9) ?rlk9; (case rlh9 => (have hrl := (hb.cell (cell_old hcz)).trans hcz; go_simp; try rfl)); go_simp)
          (refine Rely.Fx.call (o := ?rlo10) (Value.tuple #[.bool true, I 0]) 80 ?rlho10 ?rlhd10 (by simp) (by kernel_rfl) ?rlh10 ?rlk10; (case rlho10 => (simp only [List.getElem?_toArray, List.getElem?_cons_succ, List.getElem?_cons_zero]; rfl)); (case rlhd10 => rfl))
          · intro w' hb
            go_wp2_with fail
            refine (fits_any 0 _ _ _ _ _ rows owners commits txt ps kp z _ (((HR.out.below HB3.out).below hbw.out).below hb) (((HO.out.below HB3.out).below hbw.out).below hb) ((HCM.out.below hbw.out).below hb) (((HT.out.below HB3.out).below hbw.out).below hb) ((HPS.out.below hbw.out).below hb) (((HG.out.below HB3.out).below hbw.out).below hb)).mono ?_
            rintro r w9 ⟨hf, hb9⟩
            obtain rfl := HFK.out z HZK.out _ hf
            have hd : decide (z = z) = true := decide_eq_true rfl
            rw [hd]
            clear hf
            go_wp2
            exact ⟨_, rfl, rfl, hb.trans (hb9.mono hb.size), Rely.Stab.none _ _ _ _⟩
          go_simp
          (refine Rely.Fx.run ?rlc11 rfl rfl (fun _ _ => ?rlh11) ?rlk11; (case rlh11 => (go_simp; try rfl)); go_simp)
          (refine Rely.Fx.run ?rlc12 rfl rfl (fun _ _ => ?rlh12) ?rlk12; (case rlh12 => (go_simp; try rfl)); go_simp)
          (refine Rely.Fx.run ?rlc13 rfl rfl (fun _ _ => ?rlh13) ?rlk13; (case rlh13 => (go_simp; try rfl)); go_simp)
          refine Rely.Fx.done ?_
          refine Rely.Lt.done ?_
          intro w5 hb5 _
          have HB5 : Hid (Below w3.heap.size w3 w5) := Lib.hid (hbw.out.trans (hb5.mono hbw.out.size))
          replace q0 := keep hb5 q0
          replace q1 := keep hb5 q1
          replace q2 := keep hb5 q2
          replace q3 := keep hb5 q3
          replace q6 := keep hb5 q6
          replace hcz := keep hb5 hcz
          clear hb5 hcw q5
          (refine Rely.Tl.step (o := ?rlo14) ?rlho14 ?rlk14; (case rlho14 => (simp only [List.getElem?_toArray, List.getElem?_cons_succ, List.getElem?_cons_zero]; rfl)))
          go_wp2
          refine ⟨rfl, ?_⟩
          (refine Rely.Tl.last (o := ?rlo15) ?rlho15 ?rlk15; (case rlho15 => (simp only [List.getElem?_toArray, List.getElem?_cons_succ, List.getElem?_cons_zero]; rfl)))
          go_wp2
          refine ⟨rfl, ?_⟩
          go_wp2_with fail
          refine (fits_any 0 _ _ _ _ _ rows owners commits txt ps kp (other % 1073741789) _ ((HR.out.below HB3.out).below HB5.out) ((HO.out.below HB3.out).below HB5.out) (HCM.out.below HB5.out) ((HT.out.below HB3.out).below HB5.out) (HPS.out.below HB5.out) ((HG.out.below HB3.out).below HB5.out)).mono ?_
          rintro r w6 ⟨hf, hb6⟩
          obtain rfl := HFK.out _ HX0.out _ hf
          have HB6 : Hid (Below w3.heap.size w3 w6) := Lib.hid (HB5.out.trans (hb6.mono HB5.out.size))
          replace hcz := keep hb6 hcz
          clear hf hb6 q0 q1 q2 q3 q6
          by_cases hxz : other % 1073741789 = z
          · have hd : decide (other % 1073741789 = z) = true := by simp [hxz]
            have he : (other % 1073741789 == z) = true := by simp [hxz]
            clear hxz
            go_wp2
            go_roundw
            case rel => exact ⟨k + 1, by omega, by go_num, HB6⟩
            case measure => simp [intOf]; omega
          · have hd : decide (other % 1073741789 = z) = false := by simp [hxz]
            have he : (other % 1073741789 == z) = false := by simp [hxz]
            clear hxz
            go_wp2
            go_roundw
            case rel => exact ⟨k + 1, by omega, by go_num, HB6⟩
            case measure => simp [intOf]; omega
        · obtain rfl : k = who.length := by omega
          go_wp2
          go_ret
          exact ⟨rfl, HB3.out.trans (hbw.out.mono HB3.out.size)⟩

end Go.Proofs.YtgacdmkhgllceaaGreatDoor
