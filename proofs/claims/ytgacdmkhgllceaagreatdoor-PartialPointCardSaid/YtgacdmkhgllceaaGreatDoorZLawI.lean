/- signatorylaw42.PartialSigns walked. -/
import Derived.Test.YtgacdmkhgllceaaGreatDoorZLawH
namespace Go.Proofs.YtgacdmkhgllceaaGreatDoor
open Go.RowKit Go.Shelf

theorem head_get {l : List Int} (h : 0 < l.length) : l[0] = l.headD 0 := by
  cases l with
  | nil => simp at h
  | cons a t => rfl
theorem kpsOf_kp (who ns : List Int) : (kpsOf who ns).map Kp.kp = who := by
  apply List.ext_getElem
  · simp [kpsOf]
  · intro i h1 h2
    simp only [kpsOf, List.map_map, List.getElem_map, List.getElem_range, Function.comp_apply]
    simp [h2]
theorem honest_of {rows : List (List Int)} {owners : List Int} {b : Int} (h : useB rows owners b = true) (secret : Int) (random nonces : List Int) (txt : List UInt8) (ht : txt.length ≤ 300) :
    Honest rows owners (secOf rows secret random) (kpsOf (whoTo b 16) (numsOf (2 * (whoTo b 16).length) nonces)) txt := by
  unfold useB smallB at h
  simp only [Bool.and_eq_true, decide_eq_true_eq] at h
  obtain ⟨⟨_, h2, _⟩, h4, h5⟩ := h
  have hw := whoTo_ok b 16 (Nat.le_refl _)
  have hl := whoTo_len b 16
  have hkl : (kpsOf (whoTo b 16) (numsOf (2 * (whoTo b 16).length) nonces)).length = (whoTo b 16).length := by simp [kpsOf]
  have hnum : ∀ i, 0 ≤ (numsOf (2 * (whoTo b 16).length) nonces).getD i 0 ∧ (numsOf (2 * (whoTo b 16).length) nonces).getD i 0 < 1073741789 := by
    intro i
    by_cases hi : i < (numsOf (2 * (whoTo b 16).length) nonces).length
    · rw [List.getD_eq_getElem?_getD, List.getElem?_eq_getElem hi, Option.getD_some]
      exact numsOf_bd _ _ _ (List.getElem_mem hi)
    · rw [List.getD_eq_getElem?_getD, List.getElem?_eq_none (by omega)]
      decide
  refine ⟨h2, sec_len (cols_pos h2).1, by rw [kpsOf_kp]; exact h4, by rw [kpsOf_kp]; exact hw.1, by omega, by omega, ?_, ?_, ?_, ht⟩
  · intro x hx
    unfold kpsOf at hx
    obtain ⟨i, _, rfl⟩ := List.mem_map.1 hx
    dsimp only; omega
  · intro x hx
    unfold kpsOf at hx
    obtain ⟨i, _, rfl⟩ := List.mem_map.1 hx
    exact ⟨hnum _, hnum _⟩
  · intro x hx
    unfold secOf at hx
    rcases List.mem_cons.1 hx with rfl | hx
    · exact md_bd _
    · exact numsOf_bd _ _ x hx
/-- What each keeper of the table makes. -/
theorem honest_makes {rows : List (List Int)} {owners : List Int} {b : Int} {secret : Int} {random nonces : List Int} {txt : List UInt8} (H : Honest rows owners (secOf rows secret random) (kpsOf (whoTo b 16) (numsOf (2 * (whoTo b 16).length) nonces)) txt)
    (i : Nat) (hi : i < (whoTo b 16).length) :
    makeR 0 rows owners (commitsOf (secOf rows secret random)) txt ((kpsOf (whoTo b 16) (numsOf (2 * (whoTo b 16).length) nonces)).map Kp.pr) (whoTo b 16)[i] (ofK owners (whoTo b 16)[i] (dealt rows (secOf rows secret random))) ((numsOf (2 * (whoTo b 16).length) nonces).getD (2 * i) 0) ((numsOf (2 * (whoTo b 16).length) nonces).getD (2 * i + 1) 0) =
      ((((kpsOf (whoTo b 16) (numsOf (2 * (whoTo b 16).length) nonces)).map H.z).getD i 0), 0) := by
  have hkl : i < (kpsOf (whoTo b 16) (numsOf (2 * (whoTo b 16).length) nonces)).length := by simpa [kpsOf] using hi
  have h := H.z_eq (kpsOf (whoTo b 16) (numsOf (2 * (whoTo b 16).length) nonces))[i] (List.getElem_mem hkl)
  have e : (kpsOf (whoTo b 16) (numsOf (2 * (whoTo b 16).length) nonces))[i] = ⟨(whoTo b 16)[i], (whoTo b 16)[i] % 7, (numsOf (2 * (whoTo b 16).length) nonces).getD (2 * i) 0, (numsOf (2 * (whoTo b 16).length) nonces).getD (2 * i + 1) 0⟩ := by
    simp only [kpsOf, List.getElem_map, List.getElem_range]
    simp [hi]
  have e2 : ((kpsOf (whoTo b 16) (numsOf (2 * (whoTo b 16).length) nonces)).map H.z).getD i 0 = H.z (kpsOf (whoTo b 16) (numsOf (2 * (whoTo b 16).length) nonces))[i] := by simp [hkl]
  rw [e2, ← h, e]
theorem dealt_rows (rows : List (List Int)) (s : List Int) (n : Nat) (hn : rows.length = n) : ∀ x ∈ dealt rows s, 0 ≤ x.1 ∧ x.1 < n := by
  intro x hx
  rw [dealt_range] at hx
  obtain ⟨i, hi, rfl⟩ := List.mem_map.1 hx
  have := List.mem_range.1 hi
  dsimp only; omega

set_option maxRecDepth 100000 in
set_option maxHeartbeats 4000000 in
theorem signs_law (vr vo vx vn vt : Value) (rows : List (List Int)) (owners : List Int) (secret b : Int) (random nonces : List Int) (txt : List UInt8) (w : World) (hr : Rows2 w vr rows) (ho : Ints w vo owners) (hx : U32s w vx random) (hn : U32s w vn nonces) (ht : Bytes w vt txt) (hg : Glob w)
    (hs0 : 0 ≤ secret) (hs1 : secret < 4294967296) (hm0 : 0 ≤ b) (hm1 : b < 65536) :
    Calls Tryz.prog 5 #[.agg #[vr, vo], .int .u32 secret, vx, vn, .int .u16 b, vt] w fun e w' => e = .returned (.bool true) ∧ Below w.heap.size w w' := by
  obtain ⟨Ar, cr, rfl, _⟩ := hr.shape
  obtain ⟨Bo, co, rfl, _⟩ := ho.shape
  obtain ⟨At, ct, rfl, htm⟩ := ht.shape
  have hba : Below w.heap.size w (w.alloc (.cells #[.slice Ar rows.length cr, .slice Bo owners.length co] 25)) := (Below.refl _ _).alloc (Nat.le_refl _) _
  have p0 : (w.alloc (.cells #[.slice Ar rows.length cr, .slice Bo owners.length co] 25)).cell? ⟨w.heap.size, 0, none⟩ = some (.slice Ar rows.length cr) := by rw [World.cell?_alloc_new]; rfl
  have p1 : (w.alloc (.cells #[.slice Ar rows.length cr, .slice Bo owners.length co] 25)).cell? ⟨w.heap.size, 1, none⟩ = some (.slice Bo owners.length co) := by rw [World.cell?_alloc_new]; rfl
  obtain ⟨W, hW⟩ : ∃ W, w.alloc (.cells #[.slice Ar rows.length cr, .slice Bo owners.length co] 25) = W := ⟨_, rfl⟩
  rw [hW] at hba p0 p1
  have HB := Lib.hid hba
  have HR := Lib.hid hr
  have HO := Lib.hid ho
  have HX := Lib.hid hx
  have HN := Lib.hid hn
  have HT := Lib.hid ht
  have HG := Lib.hid hg
  clear hr ho hx hn ht hg hba
  go_enter Tryz.func5, Tryz.ntmps5
  go_wp2_with fail
  refine (sane_law W (HG.out.below HB.out)).mono ?_
  rintro e w1 ⟨rfl, hb1⟩
  have HB1 : Hid (Below w.heap.size w w1) := Lib.hid (HB.out.trans (hb1.mono HB.out.size))
  replace p0 := keep hb1 p0
  replace p1 := keep hb1 p1
  clear hb1 hW
  go_wp2_with fail
  refine (begun_law _ _ _ _ rows owners secret b random nonces w1 (HR.out.below HB1.out) (HO.out.below HB1.out) (HX.out.below HB1.out) (HN.out.below HB1.out) hs0 hs1 hm0 hm1).mono ?_
  rintro e w2 ⟨hbr, hb2⟩
  have HB2 : Hid (Below w.heap.size w w2) := Lib.hid (HB1.out.trans (hb2.mono HB1.out.size))
  clear hb2 p0 p1
  rcases hbr with ⟨_, A, n, c, rfl⟩ | ⟨hu, vc, vs, vw, vp, vn2, rfl, htab⟩
  · have HBF := Lib.hid (HB2.out.alloc HB2.out.size (.cells (tabC 0 nilS nilS nilS nilS (.slice A n c) nilS nilS) 46))
    go_wp2
    go_ret
    exact ⟨rfl, HBF.out⟩
  · obtain ⟨Ac, cc, ec, _⟩ := htab.c.shape
    generalize (List.length _) = nc at ec
    subst ec
    obtain ⟨As, cs, es, _⟩ := htab.s.shape
    generalize (List.length _) = ns at es
    subst es
    obtain ⟨Aw, cw, ewh, _⟩ := htab.wh.shape
    generalize (List.length _) = nwh at ewh
    subst ewh
    obtain ⟨Ap, cp, ep, _⟩ := htab.p.shape
    generalize (List.length _) = np at ep
    subst ep
    obtain ⟨An, cn, en, _⟩ := htab.n.shape
    generalize (List.length _) = nn at en
    subst en
    have HU := Lib.hid hu
    have HTAB := Lib.hid htab
    clear hu htab
    by_cases hlen : 300 < txt.length
    · have hl2 : (300 : Int) < (txt.length : Int) := by omega
      have HBF := fun o => Lib.hid (HB2.out.alloc HB2.out.size o)
      clear hlen
      go_wp2
      go_ret
      exact ⟨rfl, (HBF _).out⟩
    · have hl2 : ¬ (300 : Int) < (txt.length : Int) := by omega
      have HH := Lib.hid (honest_of HU.out secret random nonces txt (by omega))
      clear hlen
      go_wp2_with fail
      have HBT : Hid (Below w2.heap.size w2 (w2.alloc (.cells (tabC 0 (.slice Ar rows.length cr) (.slice Bo owners.length co) (.slice Ac nc cc) (.slice As ns cs) (.slice Aw nwh cw) (.slice Ap np cp) (.slice An nn cn)) 46))) := Lib.hid ((Below.refl _ _).alloc (Nat.le_refl _) _)
      have c3 : (w2.alloc (.cells (tabC 0 (.slice Ar rows.length cr) (.slice Bo owners.length co) (.slice Ac nc cc) (.slice As ns cs) (.slice Aw nwh cw) (.slice Ap np cp) (.slice An nn cn)) 46)).cell? ⟨w2.heap.size, 3, none⟩ = some (.slice Ac nc cc) := by rw [World.cell?_alloc_new]; rfl
      have HPE : Hid (progErr rows owners = 0) := Lib.hid HH.out.prog
      have HRL : Hid (rows.length = owners.length ∧ rows.length ≤ 64) := Lib.hid ⟨HH.out.rl, (progErr_zero HPE.out).1⟩
      have HWL := Lib.hid (whoTo_len b 16)
      refine (signed_law 0 _ _ _ _ _ _ _ _ rows owners (commitsOf (secOf rows secret random)) (dealt rows (secOf rows secret random)) (whoTo b 16) ((kpsOf (whoTo b 16) (numsOf (2 * (whoTo b 16).length) nonces)).map Kp.pr) (numsOf (2 * (whoTo b 16).length) nonces) txt ((kpsOf (whoTo b 16) (numsOf (2 * (whoTo b 16).length) nonces)).map HH.out.z) _ (HTAB.out.below HBT.out) ((HT.out.below HB2.out).below HBT.out) ((HG.out.below HB2.out).below HBT.out)
        (dealt_rows rows _ _ HRL.out.1) (by rw [dealt_len]; have := HRL.out.2; omega) (by have := HWL.out; omega) (numsOf_len _ _) (by simp [kpsOf]) (honest_makes HH.out) HH.out.beg).mono ?_
      rintro e w3 ⟨rfl, hb3⟩
      have HB3 : Hid (Below w.heap.size w w3) := Lib.hid (HB2.out.trans ((HBT.out.trans (hb3.mono HBT.out.size)).mono HB2.out.size))
      have HB23 : Hid (Below w2.heap.size w2 w3) := Lib.hid (HBT.out.trans (hb3.mono HBT.out.size))
      replace c3 := keep hb3 c3
      have HCM := Lib.hid (HTAB.out.c.below HB23.out)
      have HVER : Hid (verB (ex ((secOf rows secret random).getD 0 0)) txt (chN ((commitsOf (secOf rows secret random)).headD 0) txt ((kpsOf (whoTo b 16) (numsOf (2 * (whoTo b 16).length) nonces)).map Kp.pr)) (sumQ ((kpsOf (whoTo b 16) (numsOf (2 * (whoTo b 16).length) nonces)).map HH.out.z)) = true) := Lib.hid (by rw [HH.out.head]; exact HH.out.signs)
      have HHE : Hid ((commitsOf (secOf rows secret random)).headD 0 = ex ((secOf rows secret random).getD 0 0) ∧ 0 < (commitsOf (secOf rows secret random)).length) := Lib.hid ⟨HH.out.head, by
        unfold commitsOf; rw [List.length_map, HH.out.len]; have := (cols_pos HPE.out).1; omega⟩
      generalize chN ((commitsOf (secOf rows secret random)).headD 0) txt ((kpsOf (whoTo b 16) (numsOf (2 * (whoTo b 16).length) nonces)).map Kp.pr) = ch at *
      generalize sumQ ((kpsOf (whoTo b 16) (numsOf (2 * (whoTo b 16).length) nonces)).map HH.out.z) = sz at *
      generalize ex ((secOf rows secret random).getD 0 0) = key at *
      generalize commitsOf (secOf rows secret random) = commits at *
      have hnc : nc = commits.length := by
        obtain ⟨A', c', e, _⟩ := HCM.out
        injection e
      obtain ⟨ac, rfl, ec⟩ : ∃ ac, Ac = some ac ∧ w3.cell? ac = some (I key) := by
        have h := HCM.out
        rw [hnc] at h
        obtain ⟨ac, e, hc⟩ := h.at 0 HHE.out.2
        refine ⟨ac, e, ?_⟩
        rw [show ac.add 0 = ac by unfold Addr.add; rfl] at hc
        rw [hc, head_get, HHE.out.1]
      have hn0 : 0 < nc := by rw [hnc]; exact HHE.out.2
      have d0 : (w3.alloc (.cells #[I ch, I sz] 50)).cell? ⟨w3.heap.size, 0, none⟩ = some (I ch) := by rw [World.cell?_alloc_new]; rfl
      have d1 : (w3.alloc (.cells #[I ch, I sz] 50)).cell? ⟨w3.heap.size, 1, none⟩ = some (I sz) := by rw [World.cell?_alloc_new]; rfl
      have c3b := keepA (.cells #[I ch, I sz] 50) c3
      have ecb := keepA (.cells #[I ch, I sz] 50) ec
      have HBSG : Hid (Below w3.heap.size w3 (w3.alloc (.cells #[I ch, I sz] 50))) := Lib.hid ((Below.refl _ _).alloc (Nat.le_refl _) _)
      obtain ⟨w4, hw4⟩ : ∃ w4, w3.alloc (.cells #[I ch, I sz] 50) = w4 := ⟨_, rfl⟩
      rw [hw4] at d0 d1 c3b ecb HBSG
      have HB4 : Hid (Below w.heap.size w w4) := Lib.hid (HB3.out.trans (HBSG.out.mono HB3.out.size))
      clear hb3 hnc c3 ec
      go_upto_region 7 with (fail)
      clear hw4
      refine Rely.regionB _ _ (by kernel_rfl) [0,1,2,3,4,5,6,7,8,9,10] [] [11] (fun _ _ _ => True) (fun _ => True) (by kernel_rfl) (fun _ _ => trivial) ?_
      (refine Rely.Fx.run ?rlc1 rfl rfl (fun _ _ => ?rlh1) ?rlk1; (case rlh1 => (go_simp; try rfl)); go_simp)
      (refine Rely.Fx.run ?rlc2 rfl rfl (fun _ _ => ?rlh2) ?rlk2; (case rlh2 => (go_simp; try rfl)); go_simp)
      (refine Rely.Fx.run ?rlc3 rfl rfl (fun _ _ => ?rlh3) ?rlk3; (case rlh3 => (go_simp; try rfl)); go_simp)
      (refine Rely.Fx.run ?rlc4 rfl rfl (fun _ _ => ?rlh4) ?rlk4; (case rlh4 => (go_simp; try rfl)); go_simp)
      (refine Rely.Fx.load ?rlc5 rfl (by kernel_rfl) rfl (Rely.Stab.refl _ _ _) (fun _ hb => ?rlh5) ?rlk5; (case rlh5 => (have hrl := (hb.cell (cell_old c3b)).trans c3b; go_simp; try rfl)); go_simp)
      (refine Rely.Fx.run ?rlc6 rfl rfl (fun _ _ => ?rlh6) ?rlk6; (case rlh6 => (go_simp; try rfl)); go_simp)
      (refine Rely.Fx.load ?rlc7 rfl (by kernel_rfl) rfl (Rely.Stab.refl _ _ _) (fun _ hb => ?rlh7) ?rlk7; (case rlh7 => (have hrl := (hb.cell (cell_old ecb)).trans ecb; go_simp; try rfl)); go_simp)
      (refine Rely.Fx.run ?rlc8 rfl rfl (fun _ _ => ?rlh8) ?rlk8; (case rlh8 => (go_simp; try rfl)); go_simp)
      (refine Rely.Fx.load ?rlca rfl (by kernel_rfl) rfl (Rely.Stab.refl _ _ _) (fun _ hb => ?rlha) ?rlka; (case rlha => (have hr0 := (hb.cell (cell_old d0)).trans d0; have hr1 := (hb.cell (cell_old d1)).trans d1; go_simp; try rfl)); go_simp)
      (refine Rely.Fx.call (o := ?rlo9) (Value.bool true) 56 ?rlho9 ?rlhd9 (by simp) (by kernel_rfl) ?rlh9 ?rlk9; (case rlho9 => (simp only [List.getElem?_toArray, List.getElem?_cons_succ, List.getElem?_cons_zero]; rfl)); (case rlhd9 => rfl))
      · intro w' hb
        go_wp2_with fail
        refine (verify_any key _ txt ch sz _ ((HT.out.below HB4.out).below hb) ((HG.out.below HB4.out).below hb) (by omega)).mono ?_
        rintro r w9 ⟨rfl, hb9⟩
        rw [HVER.out]
        go_wp2
        exact ⟨_, rfl, rfl, hb.trans (hb9.mono hb.size), Rely.Stab.none _ _ _ _⟩
      go_simp
      (refine Rely.Fx.run ?rlc10 rfl rfl (fun _ _ => ?rlh10) ?rlk10; (case rlh10 => (go_simp; try rfl)); go_simp)
      refine Rely.Fx.done ?_
      refine Rely.Lt.done ?_
      intro w5 hb5 _
      have HB5 : Hid (Below w.heap.size w w5) := Lib.hid (HB4.out.trans (hb5.mono HB4.out.size))
      clear hb5 d0 d1 c3b ecb
      (refine Rely.Tl.last (o := ?rlo11) ?rlho11 ?rlk11; (case rlho11 => (simp only [List.getElem?_toArray, List.getElem?_cons_succ, List.getElem?_cons_zero]; rfl)))
      go_wp2
      refine ⟨rfl, ?_⟩
      go_wp2
      go_ret
      exact ⟨rfl, HB5.out⟩

end Go.Proofs.YtgacdmkhgllceaaGreatDoor
