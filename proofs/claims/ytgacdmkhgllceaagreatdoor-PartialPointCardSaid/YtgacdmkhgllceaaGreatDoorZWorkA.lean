/- partial.Fits walked: the body. -/
import Derived.Test.YtgacdmkhgllceaaGreatDoorZWork6
import Derived.Test.YtgacdmkhgllceaaGreatDoorZRely2
namespace Go.Proofs.YtgacdmkhgllceaaGreatDoor
open Go.RowKit Go.Shelf

/-- What Fits compares. -/
noncomputable def wantP (rows : List (List Int)) (owners commits : List Int) (txt : List UInt8) (ps : List Pr) (x : Pr) : Int :=
  mulP (nonceN (commits.headD 0) txt (allV ps) x) (prodP (fun j : Nat => pubW rows owners commits (accY rows owners (ps.map Pr.kp)) (chN (commits.headD 0) txt ps) j) (ownIdx owners owners.length x.kp))
/-- What Fits returns. -/
def FitsR (ep : Int) (rows : List (List Int)) (owners commits : List Int) (txt : List UInt8) (ps : List Pr) (kp z : Int) (e : Ending) : Prop :=
  (begE ep rows owners commits txt.length ps ≠ 0 ∧ e = .returned (.tuple #[.bool false, I (begE ep rows owners commits txt.length ps)])) ∨
  (begE ep rows owners commits txt.length ps = 0 ∧ (idx (isKp kp) ps < 0 ∨ oddQ z = true) ∧ e = .returned (.tuple #[.bool false, I 1])) ∨
  (begE ep rows owners commits txt.length ps = 0 ∧ oddQ z = false ∧ ∃ (i : Nat) (hi : i < ps.length), idx (isKp kp) ps = i ∧ e = .returned (.tuple #[.bool (powP 4 z == wantP rows owners commits txt ps ps[i]), I 0]))
theorem isKp_at {ps : List Pr} {kp : Int} {i : Nat} (hi : i < ps.length) (h : idx (isKp kp) ps = i) : ps[i].kp = kp := by
  obtain ⟨j, hj, e1, e2⟩ := idx_at (p := isKp kp) (xs := ps) (by omega)
  have : j = i := by omega
  subst this
  simpa [isKp] using e2
/-- What the values of the region of Fits are. -/
def FV (g : Nat) (kp : Int) (Ao : Option Addr) (co : Nat) (owners : List Int) (pr mu er : Int) (j : Nat) (v : Value) (w : World) : Prop :=
  match j with
  | 5 => ∃ b2 b3, v = .func (.func 128) #[] #[.pointer (some ⟨b2, 0, none⟩), .pointer (some ⟨b3, 0, none⟩)] ∧ RowsN b2 b3 g kp Ao co owners w
  | 6 => Ints w v ((ownIdx owners owners.length kp).map fun i : Nat => (i : Int))
  | 8 => v = I pr
  | 9 => v = .tuple #[I mu, I er]
  | 10 => v = .tuple #[I mu, I er]
  | 11 => v = I mu
  | 12 => v = I er
  | _ => True
theorem FV.below {g : Nat} {kp : Int} {Ao : Option Addr} {co : Nat} {owners : List Int} {pr mu er : Int} {w w' : World} (hb : Below w.heap.size w w') : ∀ (j : Nat) (u : Value), FV g kp Ao co owners pr mu er j u w → FV g kp Ao co owners pr mu er j u w' := by
  intro j u h
  unfold FV at *
  split at h
  · obtain ⟨b2, b3, e, h⟩ := h; exact ⟨b2, b3, e, h.below hb⟩
  · exact h.below hb
  all_goals exact h

set_option maxRecDepth 100000 in
set_option maxHeartbeats 2000000 in
theorem fits_any (ep : Int) (vr vo vc vt vp : Value) (rows : List (List Int)) (owners commits : List Int) (txt : List UInt8) (ps : List Pr) (kp z : Int) (w : World) (hr : Rows2 w vr rows) (ho : Ints w vo owners) (hc : Ints w vc commits) (ht : Bytes w vt txt) (hp : Pairs w vp ps) (hg : Glob w) :
    Calls Tryz.prog 22 #[.agg #[I ep, vr, vo, vc], vt, vp, I kp, I z] w fun e w' => FitsR ep rows owners commits txt ps kp z e ∧ Below w.heap.size w w' := by
  obtain ⟨Ap, cp, rfl, hmp⟩ := hp.shape
  have hba : Below w.heap.size w (w.alloc (.cells #[I ep, vr, vo, vc] 27)) := (Below.refl _ w).alloc (Nat.le_refl _) _
  have b0 : (w.alloc (.cells #[I ep, vr, vo, vc] 27)).cell? ⟨w.heap.size, 0, none⟩ = some (I ep) := by rw [World.cell?_alloc_new]; rfl
  have b1 : (w.alloc (.cells #[I ep, vr, vo, vc] 27)).cell? ⟨w.heap.size, 1, none⟩ = some vr := by rw [World.cell?_alloc_new]; rfl
  have b2 : (w.alloc (.cells #[I ep, vr, vo, vc] 27)).cell? ⟨w.heap.size, 2, none⟩ = some vo := by rw [World.cell?_alloc_new]; rfl
  have b3 : (w.alloc (.cells #[I ep, vr, vo, vc] 27)).cell? ⟨w.heap.size, 3, none⟩ = some vc := by rw [World.cell?_alloc_new]; rfl
  have HR := Lib.hid (hr.below hba)
  have HO := Lib.hid (ho.below hba)
  have HC := Lib.hid (hc.below hba)
  have HT := Lib.hid (ht.below hba)
  have HP := Lib.hid (hp.below hba)
  have HG := Lib.hid (hg.below hba)
  have HB := Lib.hid hba
  have HM := Lib.hid hmp
  clear hr ho hc ht hp hg hba hmp
  generalize hW : w.alloc (.cells #[I ep, vr, vo, vc] 27) = W at *
  go_enter Tryz.func22, Tryz.ntmps22
  by_cases hE : begE ep rows owners commits txt.length ps = 0
  · have HE := Lib.hid hE
    clear hE
    go_wp2_with fail
    refine (begin_good ep vr vo vc vt _ rows owners commits txt ps W HR.out HO.out HC.out HT.out HP.out HG.out HE.out).mono ?_
    rintro e w2 ⟨g, vy, vl, rfl, hbg, hb2⟩
    have HBG := Lib.hid hbg
    have HB2 : Hid (Below w.heap.size w w2) := Lib.hid (HB.out.trans (hb2.mono HB.out.size))
    have HB2W := Lib.hid hb2
    have HK : Hid (w2.cell? ⟨w.heap.size, 1, none⟩ = some vr ∧ w2.cell? ⟨w.heap.size, 2, none⟩ = some vo ∧ w2.cell? ⟨w.heap.size, 3, none⟩ = some vc) := Lib.hid ⟨keep hb2 b1, keep hb2 b2, keep hb2 b3⟩
    clear hbg hb2 b0 b1 b2 b3 hW
    have hbA : Below w2.heap.size w2 (w2.alloc (.cells #[.pointer (some ⟨g, 0, none⟩)] 90)) := (Below.refl _ _).alloc (Nat.le_refl _) _
    have a0 : (w2.alloc (.cells #[.pointer (some ⟨g, 0, none⟩)] 90)).cell? ⟨w2.heap.size, 0, none⟩ = some (.pointer (some ⟨g, 0, none⟩)) := by rw [World.cell?_alloc_new]; rfl
    obtain ⟨wA, hwA⟩ : ∃ wA, w2.alloc (.cells #[.pointer (some ⟨g, 0, none⟩)] 90) = wA := ⟨_, rfl⟩
    have hnb : (wA.alloc (.cells #[I z] 3)).heap.size = w2.heap.size + 2 := by rw [← hwA]; simp
    rw [hwA] at hbA a0
    have hbN : Below wA.heap.size wA (wA.alloc (.cells #[I z] 3)) := (Below.refl _ _).alloc (Nat.le_refl _) _
    have HIZ : Hid (Ints (wA.alloc (.cells #[I z] 3)) (.slice (some ⟨wA.heap.size, 0, none⟩) 1 1) [z]) := Lib.hid (Ints.new wA [z] _ 1 3 #[I z] rfl rfl rfl (show 1 ≤ 140737488355328 by decide))
    have HBA2 := Lib.hid (below_step hbA hbN)
    have a1 := keep hbN a0
    clear hbA hbN hnb
    have h5 : (wA.alloc (.cells #[I z] 3)).cell? ⟨g, 5, none⟩ = some (.slice Ap ps.length cp) := by rw [cell_of_row _ g 5 _ _ (0, 0) (HBG.out.wb.below HBA2.out)]; rfl
    go_wp2_with fail
    refine (find_any g kp _ _ ps [z] _ h5 ((HP.out.below HB2W.out).below HBA2.out) HIZ.out).mono ?_
    rintro e w3 ⟨hf, hb3⟩
    have HB3 : Hid (Below w2.heap.size w2 w3) := Lib.hid (HBA2.out.trans (hb3.mono HBA2.out.size))
    have a3 := keep hb3 a1
    clear hb3 h5 a1 a0 hwA
    rcases hf with ⟨hf, rfl⟩ | ⟨i, hi, hix, hoq, rfl⟩
    · have HF : Hid (idx (isKp kp) ps < 0 ∨ oddQ z = true) := Lib.hid (hf.imp_right fun h => by simpa using h)
      have HBF := Lib.hid (HB2.out.trans ((HB3.out.alloc HB3.out.size (.cells #[I 0, I 0, I 0, I 0] 85)).mono HB2.out.size))
      clear hf a3
      go_wp2
      go_ret2
      exact ⟨.inr (.inl ⟨HE.out, HF.out, rfl⟩), HBF.out⟩
    · have HF : Hid (oddQ z = false) := Lib.hid (by simpa using hoq)
      have HX : Hid (∃ x, ps[i] = x) := Lib.hid ⟨_, rfl⟩
      obtain ⟨x, hx⟩ := HX.out
      have HXE := Lib.hid hx
      have HIX := Lib.hid hix
      have HI := Lib.hid hi
      have HXK : Hid (x.kp = kp) := Lib.hid (by rw [← hx]; exact isKp_at hi hix)
      have HKX : Hid (0 ≤ x.kp ∧ x.kp < 4611686018427387904) := Lib.hid (by rw [← hx]; have h := ((begE_pairs HE.out).2 ps[i] (List.getElem_mem hi)).1; omega)
      rw [hx]
      clear hix hoq hx HX
      have hb4 : Below w2.heap.size w2 (w3.alloc (.cells #[I x.kp, I x.no, I x.d, I x.e] 85)) := HB3.out.alloc HB3.out.size _
      have a4 := keepA (.cells #[I x.kp, I x.no, I x.d, I x.e] 85) a3
      have p0 : (w3.alloc (.cells #[I x.kp, I x.no, I x.d, I x.e] 85)).cell? ⟨w3.heap.size, 0, none⟩ = some (I x.kp) := by rw [World.cell?_alloc_new]; rfl
      have p1 : (w3.alloc (.cells #[I x.kp, I x.no, I x.d, I x.e] 85)).cell? ⟨w3.heap.size, 1, none⟩ = some (I x.no) := by rw [World.cell?_alloc_new]; rfl
      have p2 : (w3.alloc (.cells #[I x.kp, I x.no, I x.d, I x.e] 85)).cell? ⟨w3.heap.size, 2, none⟩ = some (I x.d) := by rw [World.cell?_alloc_new]; rfl
      have p3 : (w3.alloc (.cells #[I x.kp, I x.no, I x.d, I x.e] 85)).cell? ⟨w3.heap.size, 3, none⟩ = some (I x.e) := by rw [World.cell?_alloc_new]; rfl
      obtain ⟨w4, hw4⟩ : ∃ w4, w3.alloc (.cells #[I x.kp, I x.no, I x.d, I x.e] 85) = w4 := ⟨_, rfl⟩
      rw [hw4] at hb4 a4 p0 p1 p2 p3
      have HB4 := Lib.hid hb4
      clear hb4 a3
      go_upto_region 8 with (fail)
      clear hw4
      have HWB : Hid (WorkB w4 g ep vr vo vc vt (.slice Ap ps.length cp) vy vl (prodP (nonceN (commits.headD 0) txt (allV ps)) ps) (chN (commits.headD 0) txt ps)) := Lib.hid (HBG.out.wb.below HB4.out)
      obtain ⟨Ao, co, rfl, _⟩ := HO.out.shape
      have e2 : w4.cell? ⟨g, 2, none⟩ = some (.slice Ao owners.length co) := by rw [cell_of_row _ g 2 _ _ (0, 0) HWB.out]; rfl
      have HFN : Hid (FitN w.heap.size w2.heap.size g vr (.slice Ao owners.length co) vc vy rows owners commits (accY rows owners (ps.map Pr.kp)) (chN (commits.headD 0) txt ps) w4) := Lib.hid
        ⟨keep HB4.out HK.out.1, keep HB4.out HK.out.2.1, keep HB4.out HK.out.2.2, a4, by rw [cell_of_row _ g 6 _ _ (0, 0) HWB.out]; rfl, by rw [cell_of_row _ g 12 _ _ (0, 0) HWB.out]; rfl,
          (HR.out.below HB2W.out).below HB4.out, (HO.out.below HB2W.out).below HB4.out, (HC.out.below HB2W.out).below HB4.out, HBG.out.wy.below HB4.out⟩
      have HRN : Hid (∀ b2 b3 (W : World), Below w4.heap.size w4 W → W.cell? ⟨b2, 0, none⟩ = some (.pointer (some ⟨g, 0, none⟩)) → W.cell? ⟨b3, 0, none⟩ = some (I kp) → RowsN b2 b3 g kp Ao co owners W) := Lib.hid (fun b2 b3 W hb h1 h2 => ⟨h1, h2, keep hb e2, HFN.out.ho.below hb⟩)
      have HWR : Hid (WorkR w4 g (commits.headD 0) txt (allV ps)) := Lib.hid (HBG.out.wr.below HB4.out)
      have HG4 : Hid (Glob w4) := Lib.hid ((HG.out.below HB2W.out).below HB4.out)
      have HQ : Hid (progErr rows owners = 0) := Lib.hid (early_zero (begE_zero HE.out).1).1
      have HLO : Hid (owners.length ≤ 1000 ∧ rows.length = owners.length) := Lib.hid (by obtain ⟨h1, _, h3, _⟩ := progErr_zero HQ.out; omega)
      have HYL : Hid (∀ j ∈ ownIdx owners owners.length kp, j < (accY rows owners (ps.map Pr.kp)).length) := Lib.hid (fun j hj => by
        have := ownIdx_lt hj
        have := HLO.out.2
        simp [accY]; omega)
      have HNE : Hid (nonceN (commits.headD 0) txt (allV ps) x = mulP x.d (powP x.e (bindN (commits.headD 0) txt (allV ps) x.kp : Int))) := Lib.hid rfl
      obtain ⟨c0, hc0⟩ : ∃ c0, c0 = commits.headD 0 := ⟨_, rfl⟩
      rw [← hc0] at HWR HNE
      obtain ⟨nn, hnn⟩ : ∃ nn, mulP x.d (powP x.e (bindN c0 txt (allV ps) x.kp : Int)) = nn := ⟨_, rfl⟩
      obtain ⟨pr, hpr⟩ : ∃ pr, prodP (fun j : Nat => pubW rows owners commits (accY rows owners (ps.map Pr.kp)) (chN (commits.headD 0) txt ps) j) (ownIdx owners owners.length kp) = pr := ⟨_, rfl⟩
      have HWT : Hid (wantP rows owners commits txt ps x = mulP nn pr) := Lib.hid (by unfold wantP; rw [← hc0, HNE.out, hnn, HXK.out, ← hpr, hc0])
      have HNN := Lib.hid hnn
      have HPR := Lib.hid hpr
      have HC0 := Lib.hid hc0
      clear hnn hpr hc0 e2
      refine Rely.regionB2 _ _ (by kernel_rfl) [0,1,2,3,4,7] [5,6,8,9] [10,11,12,13,14] (FV g kp Ao co owners pr (mulP nn pr) (mulErr nn pr)) (fun _ => True) (by kernel_rfl) (fun _ _ => trivial) ?_
      (refine Rely.Fx.load ?rlc1 rfl (by kernel_rfl) rfl (Rely.Stab.refl _ _ _) (fun _ hb => ?rlh1) ?rlk1; (case rlh1 => (have hrl := (hb.cell (cell_old a4)).trans a4; go_simp; try rfl)); go_simp)
      (refine Rely.Fx.load ?rlcz rfl (by kernel_rfl) rfl (Rely.Stab.refl _ _ _) (fun _ hb => ?rlhz) ?rlkz; (case rlhz => (have hr0 := (hb.cell (cell_old p0)).trans p0; have hr1 := (hb.cell (cell_old p1)).trans p1; have hr2 := (hb.cell (cell_old p2)).trans p2; have hr3 := (hb.cell (cell_old p3)).trans p3; go_simp; try rfl)); go_simp)
      (refine Rely.Fx.call (o := ?rlo2) (I nn) 42 ?rlho2 ?rlhd2 (by simp) (by kernel_rfl) ?rlh2 ?rlk2; (case rlho2 => (simp only [List.getElem?_toArray, List.getElem?_cons_succ, List.getElem?_cons_zero]; rfl)); (case rlhd2 => rfl))
      · intro w' hb
        go_wp2_with fail
        refine (nonce_any g c0 txt (allV ps) x.kp x.no x.d x.e _ (HWR.out.below hb) (HG4.out.below hb) HKX.out).mono ?_
        rintro r w5 ⟨rfl, hb5⟩
        rw [HNN.out]
        go_wp2
        exact ⟨_, rfl, rfl, hb.trans (hb5.mono hb.size), fun j _ _ u hu => FV.below hb5 j u hu⟩
      go_simp
      (refine Rely.Fx.load ?rlc3 rfl (by kernel_rfl) rfl (Rely.Stab.refl _ _ _) (fun _ hb => ?rlh3) ?rlk3; (case rlh3 => (have hrl := (hb.cell (cell_old a4)).trans a4; go_simp; try rfl)); go_simp)
      (refine Rely.Fx.run ?rlc4 rfl rfl (fun _ _ => ?rlh4) ?rlk4; (case rlh4 => (go_simp; try rfl)); go_simp)
      (refine Rely.Fx.run ?rlc5 rfl rfl (fun _ _ => ?rlh5) ?rlk5; (case rlh5 => (go_simp; try rfl)); go_simp)
      refine Rely.Fx.done ?_
      (refine Rely.Lt.step (o := ?rlo6) 45 ?rlho6 ?rlhd6 (by simp) ?rlh6 ?rlk6; (case rlho6 => (simp only [List.getElem?_toArray, List.getElem?_cons_succ, List.getElem?_cons_zero]; rfl)); (case rlhd6 => rfl))
      · intro w' hb hp
        clear hp
        go_wp2_with fail
        refine (rows_any g kp _).mono ?_
        rintro r w5 ⟨rfl, hw5⟩
        have hbw : Below w'.heap.size w' w5 := by rw [hw5]; exact ((Below.refl _ _).alloc (Nat.le_refl _) _).alloc (by simp) _
        have q2 : w5.cell? ⟨w'.heap.size, 0, none⟩ = some (.pointer (some ⟨g, 0, none⟩)) := by rw [hw5]; exact keepA _ (by rw [World.cell?_alloc_new]; rfl)
        have q3 : w5.cell? ⟨w'.heap.size + 1, 0, none⟩ = some (I kp) := by
          rw [hw5]
          exact (new_cell (w'.alloc (.cells #[.pointer (some ⟨g, 0, none⟩)] 90)) (I kp) 3 (w'.heap.size + 1) (by simp)).1
        have HRR := Lib.hid (HRN.out _ _ w5 (hb.trans (hbw.mono hb.size)) q2 q3)
        have HBW := Lib.hid hbw
        clear q2 q3 hw5 hbw
        go_wp2
        exact ⟨_, rfl, ⟨_, _, rfl, HRR.out⟩, hb.trans (HBW.out.mono hb.size), fun j _ _ u hu => FV.below HBW.out j u hu⟩
      intro v5
      go_simp
      (refine Rely.Lt.step (o := ?rlo7) 46 ?rlho7 ?rlhd7 (by simp) ?rlh7 ?rlk7; (case rlho7 => (simp only [List.getElem?_toArray, List.getElem?_cons_succ, List.getElem?_cons_zero]; rfl)); (case rlhd7 => rfl))
      · intro w' hb hp
        obtain ⟨b2, b3, rfl, hrn⟩ : FV g kp Ao co owners pr (mulP nn pr) (mulErr nn pr) 5 v5 w' := hp.get 5 v5 (by simp) (by kernel_rfl)
        clear hp
        go_wp2_with fail
        refine (collect_any b2 b3 g kp Ao co owners _ hrn HLO.out.1).mono ?_
        rintro r w5 ⟨v, rfl, hv, hbw⟩
        have HBW := Lib.hid hbw
        have HV := Lib.hid hv
        clear hbw hv hrn
        go_wp2
        exact ⟨_, rfl, HV.out, hb.trans (HBW.out.mono hb.size), fun j _ _ u hu => FV.below HBW.out j u hu⟩
      intro v6
      go_simp
      (refine Rely.Lt.step (o := ?rlo8) 48 ?rlho8 ?rlhd8 (by simp) ?rlh8 ?rlk8; (case rlho8 => (simp only [List.getElem?_toArray, List.getElem?_cons_succ, List.getElem?_cons_zero]; rfl)); (case rlhd8 => rfl))
      · intro w' hb hp
        have hv6 : FV g kp Ao co owners pr (mulP nn pr) (mulErr nn pr) 6 v6 w' := hp.get 6 v6 (by simp) (by kernel_rfl)
        clear hp
        go_wp2_with fail
        refine (prodRows_any w.heap.size w2.heap.size g vr (.slice Ao owners.length co) vc vy v6 rows owners commits (accY rows owners (ps.map Pr.kp)) (chN (commits.headD 0) txt ps) (ownIdx owners owners.length kp) _ (HFN.out.below hb) hv6 HYL.out).mono ?_
        rintro r w5 ⟨rfl, hbw⟩
        have HBW := Lib.hid hbw
        clear hbw hv6
        rw [HPR.out]
        go_wp2
        exact ⟨_, rfl, rfl, hb.trans (HBW.out.mono hb.size), fun j _ _ u hu => FV.below HBW.out j u hu⟩
      intro v8
      go_simp
      (refine Rely.Lt.step (o := ?rlo9) 49 ?rlho9 ?rlhd9 (by simp) ?rlh9 ?rlk9; (case rlho9 => (simp only [List.getElem?_toArray, List.getElem?_cons_succ, List.getElem?_cons_zero]; rfl)); (case rlhd9 => rfl))
      · intro w' hb hp
        obtain rfl : v8 = I pr := hp.get 8 v8 (by simp) (by kernel_rfl)
        clear hp
        go_wp2_with fail
        refine (mulP_any _ _ _).mono ?_
        rintro r w5 ⟨rfl, rfl⟩
        go_wp2
        exact ⟨_, rfl, rfl, hb, fun j _ _ u hu => hu⟩
      intro v9
      go_simp
      refine Rely.Lt.done ?_
      intro w8 hb hp
      obtain rfl : v9 = .tuple #[I (mulP nn pr), I (mulErr nn pr)] := hp.one
      have HB8 : Hid (Below w.heap.size w w8) := Lib.hid (HB2.out.trans ((HB4.out.trans (hb.mono HB4.out.size)).mono HB2.out.size))
      clear hb hp a4 p0 p1 p2 p3
      (refine Rely.Tg.one (o := ?rlo10) 10 [11,12,13,14] (by kernel_rfl) ?rle10 ?rlho10 ?rlk10; (case rle10 => rfl); (case rlho10 => (simp only [List.getElem?_toArray, List.getElem?_cons_succ, List.getElem?_cons_zero]; rfl)))
      go_wp2
      refine ⟨rfl, ?_⟩
      (refine Rely.Tg.two (o := ?rlo11) (o' := ?rlp11) 11 12 [12,13,14] [11,13,14] (by kernel_rfl) ?rle11 ?rlf11 ?rlho11 ?rlhp11 ?rlk11 ?rlm11; (case rle11 => rfl); (case rlf11 => rfl); (case rlho11 => (simp only [List.getElem?_toArray, List.getElem?_cons_succ, List.getElem?_cons_zero]; rfl)); (case rlhp11 => (simp only [List.getElem?_toArray, List.getElem?_cons_succ, List.getElem?_cons_zero]; rfl)))
      · go_wp2
        refine ⟨rfl, ?_⟩
        (refine Rely.Tg.two (o := ?rlo12) (o' := ?rlp12) 12 13 [13,14] [12,14] (by kernel_rfl) ?rle12 ?rlf12 ?rlho12 ?rlhp12 ?rlk12 ?rlm12; (case rle12 => rfl); (case rlf12 => rfl); (case rlho12 => (simp only [List.getElem?_toArray, List.getElem?_cons_succ, List.getElem?_cons_zero]; rfl)); (case rlhp12 => (simp only [List.getElem?_toArray, List.getElem?_cons_succ, List.getElem?_cons_zero]; rfl)))
        · go_wp2
          refine ⟨rfl, ?_⟩
          (refine Rely.Tg.one (o := ?rlo13) 13 [14] (by kernel_rfl) ?rle13 ?rlho13 ?rlk13; (case rle13 => rfl); (case rlho13 => (simp only [List.getElem?_toArray, List.getElem?_cons_succ, List.getElem?_cons_zero]; rfl)))
          go_wp2
          refine ⟨rfl, ?_⟩
          (refine Rely.Tg.one (o := ?rlo14) 14 [] (by kernel_rfl) ?rle14 ?rlho14 ?rlk14; (case rle14 => rfl); (case rlho14 => (simp only [List.getElem?_toArray, List.getElem?_cons_succ, List.getElem?_cons_zero]; rfl)))
          go_wp2
          refine ⟨rfl, ?_⟩
          refine Rely.Tg.done ?_
          go_wp2_with fail
          refine (partial_power_any _ _ _).mono ?_
          rintro r w9 ⟨rfl, hb9⟩
          have HB9 : Hid (Below w.heap.size w w9) := Lib.hid (HB8.out.trans (hb9.mono HB8.out.size))
          clear hb9
          go_wp2
          go_ret2
          exact ⟨.inr (.inr ⟨HE.out, HF.out, i, HI.out, HIX.out, by rw [HXE.out, HWT.out]; rfl⟩), HB9.out⟩
        · go_wp2
          refine ⟨rfl, ?_⟩
          (refine Rely.Tg.one (o := ?rlo15) 12 [14] (by kernel_rfl) ?rle15 ?rlho15 ?rlk15; (case rle15 => rfl); (case rlho15 => (simp only [List.getElem?_toArray, List.getElem?_cons_succ, List.getElem?_cons_zero]; rfl)))
          go_wp2
          refine ⟨rfl, ?_⟩
          (refine Rely.Tg.one (o := ?rlo16) 14 [] (by kernel_rfl) ?rle16 ?rlho16 ?rlk16; (case rle16 => rfl); (case rlho16 => (simp only [List.getElem?_toArray, List.getElem?_cons_succ, List.getElem?_cons_zero]; rfl)))
          go_wp2
          refine ⟨rfl, ?_⟩
          refine Rely.Tg.done ?_
          go_wp2_with fail
          refine (partial_power_any _ _ _).mono ?_
          rintro r w9 ⟨rfl, hb9⟩
          have HB9 : Hid (Below w.heap.size w w9) := Lib.hid (HB8.out.trans (hb9.mono HB8.out.size))
          clear hb9
          go_wp2
          go_ret2
          exact ⟨.inr (.inr ⟨HE.out, HF.out, i, HI.out, HIX.out, by rw [HXE.out, HWT.out]; rfl⟩), HB9.out⟩
      · go_wp2
        refine ⟨rfl, ?_⟩
        (refine Rely.Tg.one (o := ?rlo17) 11 [13,14] (by kernel_rfl) ?rle17 ?rlho17 ?rlk17; (case rle17 => rfl); (case rlho17 => (simp only [List.getElem?_toArray, List.getElem?_cons_succ, List.getElem?_cons_zero]; rfl)))
        go_wp2
        refine ⟨rfl, ?_⟩
        (refine Rely.Tg.one (o := ?rlo18) 13 [14] (by kernel_rfl) ?rle18 ?rlho18 ?rlk18; (case rle18 => rfl); (case rlho18 => (simp only [List.getElem?_toArray, List.getElem?_cons_succ, List.getElem?_cons_zero]; rfl)))
        go_wp2
        refine ⟨rfl, ?_⟩
        (refine Rely.Tg.one (o := ?rlo19) 14 [] (by kernel_rfl) ?rle19 ?rlho19 ?rlk19; (case rle19 => rfl); (case rlho19 => (simp only [List.getElem?_toArray, List.getElem?_cons_succ, List.getElem?_cons_zero]; rfl)))
        go_wp2
        refine ⟨rfl, ?_⟩
        refine Rely.Tg.done ?_
        go_wp2_with fail
        refine (partial_power_any _ _ _).mono ?_
        rintro r w9 ⟨rfl, hb9⟩
        have HB9 : Hid (Below w.heap.size w w9) := Lib.hid (HB8.out.trans (hb9.mono HB8.out.size))
        clear hb9
        go_wp2
        go_ret2
        exact ⟨.inr (.inr ⟨HE.out, HF.out, i, HI.out, HIX.out, by rw [HXE.out, HWT.out]; rfl⟩), HB9.out⟩
  · have hE2 : (begE ep rows owners commits txt.length ps != 0) = true := bne_iff_ne.2 hE
    have HE := Lib.hid hE
    clear hE
    go_wp2_with fail
    refine (begin_bad ep vr vo vc vt _ rows owners commits txt ps W HR.out HO.out HC.out HT.out HP.out HG.out HE.out).mono ?_
    rintro e w2 ⟨rfl, hb2⟩
    have HB2 : Hid (Below w.heap.size w w2) := Lib.hid (HB.out.trans (hb2.mono HB.out.size))
    clear hb2 b0 b1 b2 b3 hW
    go_wp2
    go_ret2
    exact ⟨.inl ⟨HE.out, rfl⟩, HB2.out.alloc HB2.out.size _⟩

end Go.Proofs.YtgacdmkhgllceaaGreatDoor
