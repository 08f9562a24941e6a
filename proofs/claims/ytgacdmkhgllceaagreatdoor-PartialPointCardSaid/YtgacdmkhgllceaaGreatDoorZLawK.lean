/- signatorylaw42.PartialPoint walked. -/
import Derived.Test.YtgacdmkhgllceaaGreatDoorZLawI
namespace Go.Proofs.YtgacdmkhgllceaaGreatDoor
open Go.RowKit Go.Shelf

/-- The sum of what the nonces of the first keepers are, each bound. -/
def ptTo (ns bs : List Int) : Nat → Int
  | 0 => 0
  | k + 1 => add (ptTo ns bs k) (add (ns.getD (2 * k) 0) (mul (ns.getD (2 * k + 1) 0) (bs.getD k 0)))
theorem ptTo_log (c0 : Int) (txt : List UInt8) (all : Val) (who ns : List Int) : ∀ k, k ≤ who.length → md (ptTo ns ((kpsOf who ns).map fun x => (bindN c0 txt all x.kp : Int)) k) = md (logN c0 txt all ((kpsOf who ns).take k))
  | 0, _ => by simp [ptTo, logN]
  | k + 1, hk => by
    have ih := ptTo_log c0 txt all who ns k (by omega)
    have hlk : k < (kpsOf who ns).length := by simp only [kpsOf, List.length_map, List.length_range]; omega
    have e : (kpsOf who ns)[k] = ⟨who.getD k 0, who.getD k 0 % 7, ns.getD (2 * k) 0, ns.getD (2 * k + 1) 0⟩ := by simp [kpsOf]
    have e2 : logN c0 txt all ((kpsOf who ns).take (k + 1)) = logN c0 txt all ((kpsOf who ns).take k) + (ns.getD (2 * k) 0 + ns.getD (2 * k + 1) 0 * (bindN c0 txt all (who.getD k 0) : Int)) := by
      unfold logN
      rw [List.take_succ_eq_append_getElem hlk, List.map_append, List.sum_append, e]
      simp
    have e3 : ((kpsOf who ns).map fun x => (bindN c0 txt all x.kp : Int)).getD k 0 = (bindN c0 txt all (who.getD k 0) : Int) := by
      rw [List.getD_eq_getElem?_getD, List.getElem?_map, List.getElem?_eq_getElem hlk, e]
      rfl
    rw [e2, ptTo, e3]
    unfold add mul
    generalize ns.getD (2 * k + 1) 0 * (bindN c0 txt all (who.getD k 0) : Int) = y
    generalize ptTo ns _ k = p at *
    generalize logN c0 txt all ((kpsOf who ns).take k) = q at *
    generalize ns.getD (2 * k) 0 = d
    unfold md at *
    omega
theorem bindsOf_kps (c0 : Int) (txt : List UInt8) (L : List Kp) : bindsOf c0 txt (L.map Kp.pr) = L.map fun x => (bindN c0 txt (allV (L.map Kp.pr)) x.kp : Int) := by
  unfold bindsOf; rw [List.map_map]; rfl
/-- What the law finds of the point and of the whole signature. -/
theorem point_fact {rows : List (List Int)} {owners s who ns : List Int} {txt : List UInt8} (h : Honest rows owners s (kpsOf who ns) txt) (m : Int) (hm : s.getD 0 0 = m) :
    (powP 4 (ptTo ns (bindsOf (ex m) txt ((kpsOf who ns).map Kp.pr)) who.length) == prodP (nonceN (ex m) txt (allV ((kpsOf who ns).map Kp.pr))) ((kpsOf who ns).map Kp.pr)) = true ∧
    verB (ex m) txt (chN (ex m) txt ((kpsOf who ns).map Kp.pr)) (add (ptTo ns (bindsOf (ex m) txt ((kpsOf who ns).map Kp.pr)) who.length) (mul (chN (ex m) txt ((kpsOf who ns).map Kp.pr)) m)) = true := by
  subst hm
  have hl := ptTo_log (ex (s.getD 0 0)) txt (allV ((kpsOf who ns).map Kp.pr)) who ns who.length (Nat.le_refl _)
  have hk : (kpsOf who ns).length = who.length := by simp [kpsOf]
  rw [← hk, List.take_length, ← bindsOf_kps, hk] at hl
  refine ⟨?_, h.whole _ hl⟩
  rw [h.point, beq_iff_eq]
  exact ex_congr hl

set_option maxRecDepth 100000 in
set_option maxHeartbeats 4000000 in
theorem point_law (vr vo vx vn vt : Value) (rows : List (List Int)) (owners : List Int) (secret b : Int) (random nonces : List Int) (txt : List UInt8) (w : World) (hr : Rows2 w vr rows) (ho : Ints w vo owners) (hx : U32s w vx random) (hn : U32s w vn nonces) (ht : Bytes w vt txt) (hg : Glob w)
    (hs0 : 0 ≤ secret) (hs1 : secret < 4294967296) (hm0 : 0 ≤ b) (hm1 : b < 65536) :
    Calls Tryz.prog 7 #[.agg #[vr, vo], .int .u32 secret, vx, vn, .int .u16 b, vt] w fun e w' => e = .returned (.bool true) ∧ Below w.heap.size w w' := by
  obtain ⟨Ar, cr, rfl, _⟩ := hr.shape
  obtain ⟨Bo, co, rfl, _⟩ := ho.shape
  obtain ⟨At, ct, rfl, htm⟩ := ht.shape
  have hba : Below w.heap.size w (w.alloc (.cells #[.slice Ar rows.length cr, .slice Bo owners.length co] 25)) := (Below.refl _ _).alloc (Nat.le_refl _) _
  have p0 : (w.alloc (.cells #[.slice Ar rows.length cr, .slice Bo owners.length co] 25)).cell? ⟨w.heap.size, 0, none⟩ = some (.slice Ar rows.length cr) := by rw [World.cell?_alloc_new]; rfl
  have p1 : (w.alloc (.cells #[.slice Ar rows.length cr, .slice Bo owners.length co] 25)).cell? ⟨w.heap.size, 1, none⟩ = some (.slice Bo owners.length co) := by rw [World.cell?_alloc_new]; rfl
  obtain ⟨W, hW⟩ : ∃ W, w.alloc (.cells #[.slice Ar rows.length cr, .slice Bo owners.length co] 25) = W := ⟨_, rfl⟩
  rw [hW] at hba p0 p1
  have HB := Lib.hid hba
  have HR := Lib.hid hr
  have HO := Lib.hid ho
  have HX := Lib.hid hx
  have HN := Lib.hid hn
  have HT := Lib.hid ht
  have HG := Lib.hid hg
  clear hr ho hx hn ht hg hba
  go_enter Tryz.func7, Tryz.ntmps7
  go_wp2_with fail
  refine (sane_law W (HG.out.below HB.out)).mono ?_
  rintro e w1 ⟨rfl, hb1⟩
  have HB1 : Hid (Below w.heap.size w w1) := Lib.hid (HB.out.trans (hb1.mono HB.out.size))
  replace p0 := keep hb1 p0
  replace p1 := keep hb1 p1
  clear hb1 hW
  go_wp2_with fail
  refine (begun_law _ _ _ _ rows owners secret b random nonces w1 (HR.out.below HB1.out) (HO.out.below HB1.out) (HX.out.below HB1.out) (HN.out.below HB1.out) hs0 hs1 hm0 hm1).mono ?_
  rintro e w2 ⟨hbr, hb2⟩
  have HB2 : Hid (Below w.heap.size w w2) := Lib.hid (HB1.out.trans (hb2.mono HB1.out.size))
  clear hb2 p0 p1
  rcases hbr with ⟨_, A, n, c, rfl⟩ | ⟨hu, vc, vs, vw, vp, vn2, rfl, htab⟩
  · have HBF := Lib.hid (HB2.out.alloc HB2.out.size (.cells (tabC 0 nilS nilS nilS nilS (.slice A n c) nilS nilS) 46))
    go_wp2
    go_ret
    exact ⟨rfl, HBF.out⟩
  · obtain ⟨Ac, cc, ec, _⟩ := htab.c.shape
    generalize (List.length _) = nc at ec
    subst ec
    obtain ⟨As, cs, es, _⟩ := htab.s.shape
    generalize (List.length _) = ns at es
    subst es
    obtain ⟨Aw, cw, ewh, _⟩ := htab.wh.shape
    generalize (List.length _) = nwh at ewh
    subst ewh
    obtain ⟨Ap, cp, ep, _⟩ := htab.p.shape
    generalize (List.length _) = np at ep
    subst ep
    obtain ⟨An, cn, en, _⟩ := htab.n.shape
    generalize (List.length _) = nn at en
    subst en
    have HU := Lib.hid hu
    have HTAB := Lib.hid htab
    clear hu htab
    by_cases hlen : 300 < txt.length
    · have hl2 : (300 : Int) < (txt.length : Int) := by omega
      have HBF := fun o => Lib.hid (HB2.out.alloc HB2.out.size o)
      clear hlen
      go_wp2
      go_ret
      exact ⟨rfl, (HBF _).out⟩
    · have hl2 : ¬ (300 : Int) < (txt.length : Int) := by omega
      have HH := Lib.hid (honest_of HU.out secret random nonces txt (by omega))
      clear hlen
      have HPE : Hid (progErr rows owners = 0) := Lib.hid HH.out.prog
      have HBT : Hid (Below w2.heap.size w2 (w2.alloc (.cells (tabC 0 (.slice Ar rows.length cr) (.slice Bo owners.length co) (.slice Ac nc cc) (.slice As ns cs) (.slice Aw nwh cw) (.slice Ap np cp) (.slice An nn cn)) 46))) := Lib.hid ((Below.refl _ _).alloc (Nat.le_refl _) _)
      have hcell : ∀ (j : Nat) (v : Value), (tabC 0 (.slice Ar rows.length cr) (.slice Bo owners.length co) (.slice Ac nc cc) (.slice As ns cs) (.slice Aw nwh cw) (.slice Ap np cp) (.slice An nn cn))[j]? = some v → (w2.alloc (.cells (tabC 0 (.slice Ar rows.length cr) (.slice Bo owners.length co) (.slice Ac nc cc) (.slice As ns cs) (.slice Aw nwh cw) (.slice Ap np cp) (.slice An nn cn)) 46)).cell? ⟨w2.heap.size, j, none⟩ = some v := fun j v e => by rw [World.cell?_alloc_new]; exact e
      have q0 := hcell 0 _ rfl
      have q1 := hcell 1 _ rfl
      have q2 := hcell 2 _ rfl
      have q3 := hcell 3 _ rfl
      have q6 := hcell 6 _ rfl
      have q7 := hcell 7 _ rfl
      clear hcell
      go_wp2_with fail
      refine (bindAll_any 0 _ _ _ _ _ rows owners (commitsOf (secOf rows secret random)) txt ((kpsOf (whoTo b 16) (numsOf (2 * (whoTo b 16).length) nonces)).map Kp.pr) _ (HTAB.out.below HBT.out).r (HTAB.out.below HBT.out).o (HTAB.out.below HBT.out).c ((HT.out.below HB2.out).below HBT.out) (HTAB.out.below HBT.out).p ((HG.out.below HB2.out).below HBT.out)).mono ?_
      rintro e w3 ⟨hbr, hb3⟩
      rcases hbr with ⟨hne, _⟩ | ⟨_, vb, rfl, hvb⟩
      · exact absurd HH.out.beg hne
      have HB3 : Hid (Below w.heap.size w w3) := Lib.hid (HB2.out.trans ((HBT.out.trans (hb3.mono HBT.out.size)).mono HB2.out.size))
      have HB23 : Hid (Below w2.heap.size w2 w3) := Lib.hid (HBT.out.trans (hb3.mono HBT.out.size))
      replace q0 := keep hb3 q0
      replace q1 := keep hb3 q1
      replace q2 := keep hb3 q2
      replace q3 := keep hb3 q3
      replace q6 := keep hb3 q6
      replace q7 := keep hb3 q7
      have HCM := Lib.hid (HTAB.out.c.below HB23.out)
      have HPS := Lib.hid (HTAB.out.p.below HB23.out)
      have HNS := Lib.hid (HTAB.out.n.below HB23.out)
      have HHE : Hid ((commitsOf (secOf rows secret random)).headD 0 = ex (secret % 1073741789) ∧ 0 < (commitsOf (secOf rows secret random)).length) := Lib.hid ⟨HH.out.head, by
        unfold commitsOf; rw [List.length_map, HH.out.len]; have := (cols_pos HPE.out).1; omega⟩
      rw [HHE.out.1] at hvb ⊢
      have HPT := Lib.hid (point_fact HH.out (secret % 1073741789) rfl)
      have HPL : Hid (((kpsOf (whoTo b 16) (numsOf (2 * (whoTo b 16).length) nonces)).map Kp.pr).length = (whoTo b 16).length) := Lib.hid (by simp [kpsOf])
      have HBL : Hid ((bindsOf (ex (secret % 1073741789)) txt ((kpsOf (whoTo b 16) (numsOf (2 * (whoTo b 16).length) nonces)).map Kp.pr)).length = (whoTo b 16).length) := Lib.hid (by simp [kpsOf, bindsOf])
      have HNL : Hid ((numsOf (2 * (whoTo b 16).length) nonces).length = 2 * (whoTo b 16).length) := Lib.hid (numsOf_len _ _)
      have HWL := Lib.hid (whoTo_len b 16)
      obtain ⟨Ab, cb, rfl, _⟩ := hvb.shape
      have HBS := Lib.hid hvb
      clear hvb hb3 HTAB
      generalize prodP (nonceN (ex (secret % 1073741789)) txt (allV ((kpsOf (whoTo b 16) (numsOf (2 * (whoTo b 16).length) nonces)).map Kp.pr))) ((kpsOf (whoTo b 16) (numsOf (2 * (whoTo b 16).length) nonces)).map Kp.pr) = pt at *
      generalize chN (ex (secret % 1073741789)) txt ((kpsOf (whoTo b 16) (numsOf (2 * (whoTo b 16).length) nonces)).map Kp.pr) = ch at *
      generalize bindsOf (ex (secret % 1073741789)) txt ((kpsOf (whoTo b 16) (numsOf (2 * (whoTo b 16).length) nonces)).map Kp.pr) = bs at *
      clear HH HU
      generalize (kpsOf (whoTo b 16) (numsOf (2 * (whoTo b 16).length) nonces)).map Kp.pr = ps at *
      generalize numsOf (2 * (whoTo b 16).length) nonces = ns at *
      generalize whoTo b 16 = who at *
      generalize ex (secret % 1073741789) = key at *
      generalize commitsOf (secOf rows secret random) = commits at *
      have hnp : np = ps.length := by
        obtain ⟨A', c', e, _⟩ := HPS.out
        injection e
      have hnn : nn = ns.length := by
        obtain ⟨A', c', e, _⟩ := HNS.out
        injection e
      have hnc : nc = commits.length := by
        obtain ⟨A', c', e, _⟩ := HCM.out
        injection e
      obtain ⟨m, hm⟩ : ∃ m, who.length = m := ⟨_, rfl⟩
      rw [hm] at HPL HBL HNL HWL HPT
      have hbl : bs.length = m := HBL.out
      rw [HPL.out] at hnp
      subst hnp hnn
      rw [hbl] at HBS ⊢
      obtain ⟨ac, rfl, ec⟩ : ∃ ac, Ac = some ac ∧ w3.cell? ac = some (I key) := by
        have h := HCM.out
        rw [hnc] at h
        obtain ⟨ac, e, hc⟩ := h.at 0 HHE.out.2
        refine ⟨ac, e, ?_⟩
        rw [show ac.add 0 = ac by unfold Addr.add; rfl] at hc
        rw [hc, head_get, HHE.out.1]
      have hn0 : 0 < nc := by rw [hnc]; exact HHE.out.2
      clear hnc hm hbl
      have HP4 : Hid (powErr 4 = 0) := Lib.hid (powP_vld 0 vld_four).2
      clear HBT
      go_wp2
      go_loopw [20, 21, 22, 73] (fun v20 _ _ v73 wr => ∃ k : Nat, k ≤ np ∧ v73 = I k ∧ v20 = I (ptTo ns bs k) ∧ Hid (Below w3.heap.size w3 wr)) (fun _ _ _ v73 _ => np - (intOf v73).toNat)
      case atStart => exact ⟨0, Nat.zero_le _, rfl, rfl, Lib.hid (Below.refl _ _)⟩
      case round =>
        obtain ⟨k, hk, rfl, rfl, hbw⟩ := hrel
        by_cases hlt : k < np
        · have hkb : k < bs.length := by rw [HBL.out]; exact hlt
          have hn0k : 2 * k < ns.length := by rw [HNL.out]; omega
          have hn1k : 2 * k + 1 < ns.length := by rw [HNL.out]; omega
          obtain ⟨ab, rfl, hcb⟩ : ∃ ad, Ab = some ad ∧ wr.cell? (ad.add k) = some (I bs[k]) := by
            have h := HBS.out.below hbw.out
            rw [← HBL.out] at h
            exact h.at k hkb
          obtain ⟨an, rfl, hc0⟩ := (HNS.out.below hbw.out).at (2 * k) hn0k
          obtain ⟨an2, e2, hc1⟩ := (HNS.out.below hbw.out).at (2 * k + 1) hn1k
          injection e2 with e2
          subst e2
          have g0 : ns.getD (2 * k) 0 = ns[2 * k] := by simp [hn0k]
          have g1 : ns.getD (2 * k + 1) 0 = ns[2 * k + 1] := by simp [hn1k]
          have g2 : bs.getD k 0 = bs[k] := by simp [hkb]
          have HPK : Hid (ptTo ns bs (k + 1) = add (ptTo ns bs k) (add ns[2 * k] (mul ns[2 * k + 1] bs[k]))) := Lib.hid (by rw [ptTo, g0, g1, g2])
          clear g0 g1 g2
          generalize ns[2 * k] = n0 at *
          generalize ns[2 * k + 1] = n1 at *
          generalize bs[k] = bk at *
          obtain ⟨acc, hacc⟩ : ∃ acc, ptTo ns bs k = acc := ⟨_, rfl⟩
          rw [hacc] at HPK ⊢
          rw [show an.add (2 * k + 1) = ⟨an.block, an.off + (2 * k + 1), none⟩ by unfold Addr.add; rw [if_neg (by omega)]] at hc1
          have hm64 : np ≤ 16 := by have := HWL.out; omega
          have mw1 : IntKind.i64.wrap (2 * (k : Int)) = 2 * (k : Int) := wraps_i64 _ (by omega) (by omega)
          have mw2 : IntKind.i64.wrap (2 * (k : Int) + 1) = 2 * (k : Int) + 1 := wraps_i64 _ (by omega) (by omega)
          have m1 : (0 : Int) ≤ 2 * (k : Int) := by omega
          have m2 : 2 * (k : Int) < (ns.length : Int) := by omega
          have m3 : (2 * (k : Int)).toNat = 2 * k := by omega
          have m4 : (0 : Int) ≤ 2 * (k : Int) + 1 := by omega
          have m5 : 2 * (k : Int) + 1 < (ns.length : Int) := by omega
          have m6 : (2 * (k : Int) + 1).toNat = 2 * k + 1 := by omega
          replace q7 := keep hbw.out q7
          clear hacc q0 q1 q2 q3 q6 ec hm64
          go_wp2
          refine Rely.regionB _ _ (by kernel_rfl) [0,1,2,3,4,5,6,7,8,9,10,11,12,13,14,15,16,17] [] [18] (fun _ _ _ => True) (fun _ => True) (by kernel_rfl) (fun _ _ => trivial) ?_
          (refine Rely.Fx.run ?rlc1 rfl rfl (fun _ _ => ?rlh1) ?rlk1; (case rlh1 => (go_simp; try rfl)); go_simp)
          (refine Rely.Fx.run ?rlc2 rfl rfl (fun _ _ => ?rlh2) ?rlk2; (case rlh2 => (go_simp; try rfl)); go_simp)
          (refine Rely.Fx.load ?rlc3 rfl (by kernel_rfl) rfl (Rely.Stab.refl _ _ _) (fun _ hb => ?rlh3) ?rlk3; (case rlh3 => (have hrl := (hb.cell (cell_old q7)).trans q7; go_simp; try rfl)); go_simp)
          (refine Rely.Fx.run ?rlc4 rfl rfl (fun _ _ => ?rlh4) ?rlk4; (case rlh4 => (go_simp; try rfl)); go_simp)
          (refine Rely.Fx.run ?rlc5 rfl rfl (fun _ _ => ?rlh5) ?rlk5; (case rlh5 => (go_simp; try rfl)); go_simp)
          (refine Rely.Fx.run ?rlc6 rfl rfl (fun _ _ => ?rlh6) ?rlk6; (case rlh6 => (go_simp; try rfl)); go_simp)
          (refine Rely.Fx.load ?rlc7 rfl (by kernel_rfl) rfl (Rely.Stab.refl _ _ _) (fun _ hb => ?rlh7) ?rlk7; (case rlh7 => (have hrl := (hb.cell (cell_old hc0)).trans hc0; go_simp; try rfl)); go_simp)
          (refine Rely.Fx.run ?rlc8 rfl rfl (fun _ _ => ?rlh8) ?rlk8; (case rlh8 => (go_simp; try rfl)); go_simp)
          (refine Rely.Fx.load ?rlc9 rfl (by kernel_rfl) rfl (Rely.Stab.refl _ _ _) (fun _ hb => ?rlh9) ?rlk9; (case rlh9 => (have hrl := (hb.cell (cell_old q7)).trans q7; go_simp; try rfl)); go_simp)
          (refine Rely.Fx.run ?rlc10 rfl rfl (fun _ _ => ?rlh10) ?rlk10; (case rlh10 => (go_simp; try rfl)); go_simp)
          (refine Rely.Fx.run ?rlc11 rfl rfl (fun _ _ => ?rlh11) ?rlk11; (case rlh11 => (go_simp; try rfl)); go_simp)
          (refine Rely.Fx.run ?rlc12 rfl rfl (fun _ _ => ?rlh12) ?rlk12; (case rlh12 => (go_simp; try rfl)); go_simp)
          (refine Rely.Fx.run ?rlc13 rfl rfl (fun _ _ => ?rlh13) ?rlk13; (case rlh13 => (go_simp; try rfl)); go_simp)
          (refine Rely.Fx.load ?rlc14 rfl (by kernel_rfl) rfl (Rely.Stab.refl _ _ _) (fun _ hb => ?rlh14) ?rlk14; (case rlh14 => (have hrl := (hb.cell (cell_old hc1)).trans hc1; go_simp; try rfl)); go_simp)
          (refine Rely.Fx.run ?rlc15 rfl rfl (fun _ _ => ?rlh15) ?rlk15; (case rlh15 => (go_simp; try rfl)); go_simp)
          (refine Rely.Fx.call (o := ?rlo16) (I (mul n1 bk)) 93 ?rlho16 ?rlhd16 (by simp) (by kernel_rfl) ?rlh16 ?rlk16; (case rlho16 => (simp only [List.getElem?_toArray, List.getElem?_cons_succ, List.getElem?_cons_zero]; rfl)); (case rlhd16 => rfl))
          · intro w' hb
            go_wp2_with fail
            refine (mul_any n1 bk w').mono ?_
            rintro r w9 ⟨rfl, rfl⟩
            go_wp2
            exact ⟨_, rfl, rfl, hb, Rely.Stab.none _ _ _ _⟩
          go_simp
          (refine Rely.Fx.call (o := ?rlo17) (I (add n0 (mul n1 bk))) 94 ?rlho17 ?rlhd17 (by simp) (by kernel_rfl) ?rlh17 ?rlk17; (case rlho17 => (simp only [List.getElem?_toArray, List.getElem?_cons_succ, List.getElem?_cons_zero]; rfl)); (case rlhd17 => rfl))
          · intro w' hb
            go_wp2_with fail
            refine (add_any n0 (mul n1 bk) w').mono ?_
            rintro r w9 ⟨rfl, hb9⟩
            go_wp2
            exact ⟨_, rfl, rfl, hb.trans (hb9.mono hb.size), Rely.Stab.none _ _ _ _⟩
          go_simp
          (refine Rely.Fx.call (o := ?rlo18) (I (add acc (add n0 (mul n1 bk)))) 95 ?rlho18 ?rlhd18 (by simp) (by kernel_rfl) ?rlh18 ?rlk18; (case rlho18 => (simp only [List.getElem?_toArray, List.getElem?_cons_succ, List.getElem?_cons_zero]; rfl)); (case rlhd18 => rfl))
          · intro w' hb
            go_wp2_with fail
            refine (add_any acc (add n0 (mul n1 bk)) w').mono ?_
            rintro r w9 ⟨rfl, hb9⟩
            go_wp2
            exact ⟨_, rfl, rfl, hb.trans (hb9.mono hb.size), Rely.Stab.none _ _ _ _⟩
          go_simp
          refine Rely.Fx.done ?_
          refine Rely.Lt.done ?_
          intro w5 hb5 _
          have HB5 : Hid (Below w3.heap.size w3 w5) := Lib.hid (hbw.out.trans (hb5.mono hbw.out.size))
          clear hb5 hcb hc0 hc1 q7 mw1 mw2 m1 m2 m3 m4 m5 m6
          (refine Rely.Tl.last (o := ?rlo19) ?rlho19 ?rlk19; (case rlho19 => (simp only [List.getElem?_toArray, List.getElem?_cons_succ, List.getElem?_cons_zero]; rfl)))
          go_wp2
          refine ⟨rfl, ?_⟩
          go_wp2
          go_roundw
          case rel => exact ⟨k + 1, by omega, by go_num, by rw [HPK.out], HB5⟩
          case measure => simp [intOf]; omega
        · obtain rfl : k = np := by omega
          generalize ptTo ns bs k = n at *
          replace q2 := keep hbw.out q2
          replace q3 := keep hbw.out q3
          replace ec := keep hbw.out ec
          clear q0 q1 q6 q7
          go_wp2_with fail
          refine (pow_any 4 n _).mono ?_
          rintro r w4 ⟨rfl, hb4⟩
          rw [HP4.out]
          have HB4 : Hid (Below w3.heap.size w3 w4) := Lib.hid (hbw.out.trans (hb4.mono hbw.out.size))
          replace q2 := keep hb4 q2
          replace q3 := keep hb4 q3
          replace ec := keep hb4 ec
          clear hb4
          go_wp2_with fail
          refine (mul_any ch _ _).mono ?_
          rintro r w5 ⟨rfl, rfl⟩
          go_wp2_with fail
          refine (add_any n _ _).mono ?_
          rintro r w5 ⟨rfl, hb5⟩
          have HB5 : Hid (Below w3.heap.size w3 w5) := Lib.hid (HB4.out.trans (hb5.mono HB4.out.size))
          replace q3 := keep hb5 q3
          replace ec := keep hb5 ec
          clear hb5 q2
          have HPT1 : (powP 4 n == pt) = true := HPT.out.1
          have HPT2 := Lib.hid HPT.out.2
          generalize add n (mul ch (secret % 1073741789)) = sg at *
          generalize powP 4 n = pw at *
          clear HPT
          have d0 : (w5.alloc (.cells #[I ch, I sg] 50)).cell? ⟨w5.heap.size, 0, none⟩ = some (I ch) := by rw [World.cell?_alloc_new]; rfl
          have d1 : (w5.alloc (.cells #[I ch, I sg] 50)).cell? ⟨w5.heap.size, 1, none⟩ = some (I sg) := by rw [World.cell?_alloc_new]; rfl
          have c3b := keepA (.cells #[I ch, I sg] 50) q3
          have ecb := keepA (.cells #[I ch, I sg] 50) ec
          have HBSG : Hid (Below w5.heap.size w5 (w5.alloc (.cells #[I ch, I sg] 50))) := Lib.hid ((Below.refl _ _).alloc (Nat.le_refl _) _)
          obtain ⟨w6, hw6⟩ : ∃ w6, w5.alloc (.cells #[I ch, I sg] 50) = w6 := ⟨_, rfl⟩
          rw [hw6] at d0 d1 c3b ecb HBSG
          have HB6 : Hid (Below w.heap.size w w6) := Lib.hid (HB3.out.trans ((HB5.out.trans (HBSG.out.mono HB5.out.size)).mono HB3.out.size))
          clear q3 ec
          go_upto_region 17 with (fail)
          clear hw6
          refine Rely.regionB _ _ (by kernel_rfl) [0,1,2,3,4,5,6,7,8,9,10,11,12,13,14,15,16] [] [17] (fun _ _ _ => True) (fun _ => True) (by kernel_rfl) (fun _ _ => trivial) ?_
          (refine Rely.Fx.run ?rlc20 rfl rfl (fun _ _ => ?rlh20) ?rlk20; (case rlh20 => (go_simp; try rfl)); go_simp)
          (refine Rely.Fx.run ?rlc21 rfl rfl (fun _ _ => ?rlh21) ?rlk21; (case rlh21 => (go_simp; try rfl)); go_simp)
          (refine Rely.Fx.run ?rlc22 rfl rfl (fun _ _ => ?rlh22) ?rlk22; (case rlh22 => (go_simp; try rfl)); go_simp)
          (refine Rely.Fx.run ?rlc23 rfl rfl (fun _ _ => ?rlh23) ?rlk23; (case rlh23 => (go_simp; try rfl)); go_simp)
          (refine Rely.Fx.run ?rlc24 rfl rfl (fun _ _ => ?rlh24) ?rlk24; (case rlh24 => (go_simp; try rfl)); go_simp)
          (refine Rely.Fx.run ?rlc25 rfl rfl (fun _ _ => ?rlh25) ?rlk25; (case rlh25 => (go_simp; try rfl)); go_simp)
          (refine Rely.Fx.run ?rlc26 rfl rfl (fun _ _ => ?rlh26) ?rlk26; (case rlh26 => (go_simp; try rfl)); go_simp)
          (refine Rely.Fx.run ?rlc27 rfl rfl (fun _ _ => ?rlh27) ?rlk27; (case rlh27 => (go_simp; try rfl)); go_simp)
          (refine Rely.Fx.run ?rlc28 rfl rfl (fun _ _ => ?rlh28) ?rlk28; (case rlh28 => (go_simp; try rfl)); go_simp)
          (refine Rely.Fx.run ?rlc29 rfl rfl (fun _ _ => ?rlh29) ?rlk29; (case rlh29 => (go_simp; try rfl)); go_simp)
          (refine Rely.Fx.load ?rlc30 rfl (by kernel_rfl) rfl (Rely.Stab.refl _ _ _) (fun _ hb => ?rlh30) ?rlk30; (case rlh30 => (have hrl := (hb.cell (cell_old c3b)).trans c3b; go_simp; try rfl)); go_simp)
          (refine Rely.Fx.run ?rlc31 rfl rfl (fun _ _ => ?rlh31) ?rlk31; (case rlh31 => (go_simp; try rfl)); go_simp)
          (refine Rely.Fx.load ?rlc32 rfl (by kernel_rfl) rfl (Rely.Stab.refl _ _ _) (fun _ hb => ?rlh32) ?rlk32; (case rlh32 => (have hrl := (hb.cell (cell_old ecb)).trans ecb; go_simp; try rfl)); go_simp)
          (refine Rely.Fx.run ?rlc33 rfl rfl (fun _ _ => ?rlh33) ?rlk33; (case rlh33 => (go_simp; try rfl)); go_simp)
          (refine Rely.Fx.load ?rlca rfl (by kernel_rfl) rfl (Rely.Stab.refl _ _ _) (fun _ hb => ?rlha) ?rlka; (case rlha => (have hr0 := (hb.cell (cell_old d0)).trans d0; have hr1 := (hb.cell (cell_old d1)).trans d1; go_simp; try rfl)); go_simp)
          (refine Rely.Fx.call (o := ?rlo34) (Value.bool true) 126 ?rlho34 ?rlhd34 (by simp) (by kernel_rfl) ?rlh34 ?rlk34; (case rlho34 => (simp only [List.getElem?_toArray, List.getElem?_cons_succ, List.getElem?_cons_zero]; rfl)); (case rlhd34 => rfl))
          · intro w' hb
            go_wp2_with fail
            refine (verify_any key _ txt ch sg _ ((HT.out.below HB6.out).below hb) ((HG.out.below HB6.out).below hb) (by omega)).mono ?_
            rintro r w9 ⟨rfl, hb9⟩
            rw [HPT2.out]
            go_wp2
            exact ⟨_, rfl, rfl, hb.trans (hb9.mono hb.size), Rely.Stab.none _ _ _ _⟩
          go_simp
          (refine Rely.Fx.run ?rlc35 rfl rfl (fun _ _ => ?rlh35) ?rlk35; (case rlh35 => (go_simp; try rfl)); go_simp)
          refine Rely.Fx.done ?_
          refine Rely.Lt.done ?_
          intro w7 hb7 _
          have HB7 : Hid (Below w.heap.size w w7) := Lib.hid (HB6.out.trans (hb7.mono HB6.out.size))
          clear hb7 d0 d1 c3b ecb
          (refine Rely.Tl.last (o := ?rlo36) ?rlho36 ?rlk36; (case rlho36 => (simp only [List.getElem?_toArray, List.getElem?_cons_succ, List.getElem?_cons_zero]; rfl)))
          go_wp2
          refine ⟨rfl, ?_⟩
          go_wp2
          go_ret
          exact ⟨rfl, HB7.out⟩

end Go.Proofs.YtgacdmkhgllceaaGreatDoor
