/- codec.Encode walked. -/
import Derived.Test.YtgacdmkhgllceaaGreatDoorZCod3
namespace Go.Proofs.YtgacdmkhgllceaaGreatDoor
open Go.RowKit Go.Shelf

/-- What is told of the letters of Encode's region. -/
def EV (x : Val) : Nat → Value → World → Prop
  | 0, v, w => ∃ nb c, v = .pointer (some ⟨nb, 0, none⟩) ∧ WriterAt w nb c
  | 3, v, w => ∃ nb c, v = .pointer (some ⟨nb, 0, none⟩) ∧ WriterAt w nb c
  | 4, v, w => ∃ nb c, v = .pointer (some ⟨nb, kd x, none⟩) ∧ WriterAt w nb c
  | 5, v, w => ∃ nb c, v = .pointer (some ⟨nb, kd x, none⟩) ∧ WriterAt w nb c
  | 6, v, w => ∃ nb c, v = .func (.func (wf x)) #[] (wcap x c) ∧ WriterAt w nb c
  | _, _, _ => True
theorem EV.below {x : Val} {w w' : World} (hb : Below w.heap.size w w') : ∀ (j : Nat) (u : Value), EV x j u w → EV x j u w' := by
  intro j u h
  unfold EV at *
  split at h
  all_goals first | (obtain ⟨nb, c, e, hw⟩ := h; exact ⟨nb, c, e, hw.below hb⟩) | trivial

set_option maxHeartbeats 2000000 in
theorem encode_any (x : Val) (v : Value) (w : World) (hv : ValV w x v) (hd : dep x ≤ 16) (hl : (encVal x).length ≤ 140737488355328) :
    Calls Tryz.prog 146 #[v] w fun e w' => ∃ vb, e = .returned (.tuple #[vb, I 0]) ∧ Bytes w' vb (encVal x) ∧ Below w.heap.size w w' := by
  obtain ⟨n1, s1, A1, m1, q1, rfl⟩ := hv.kind
  have HV := Lib.hid hv
  have HL := Lib.hid hl
  have hba : Below w.heap.size w (w.alloc (.cells #[I (kd x), I n1, strV s1, .slice A1 m1 q1] 96)) := (Below.refl _ w).alloc (Nat.le_refl _) _
  have HBA := Lib.hid hba
  have b0 : (w.alloc (.cells #[I (kd x), I n1, strV s1, .slice A1 m1 q1] 96)).cell? ⟨w.heap.size, 0, none⟩ = some (I (kd x)) := by rw [World.cell?_alloc_new]; rfl
  have b1 : (w.alloc (.cells #[I (kd x), I n1, strV s1, .slice A1 m1 q1] 96)).cell? ⟨w.heap.size, 1, none⟩ = some (I n1) := by rw [World.cell?_alloc_new]; rfl
  have b2 : (w.alloc (.cells #[I (kd x), I n1, strV s1, .slice A1 m1 q1] 96)).cell? ⟨w.heap.size, 2, none⟩ = some (strV s1) := by rw [World.cell?_alloc_new]; rfl
  have b3 : (w.alloc (.cells #[I (kd x), I n1, strV s1, .slice A1 m1 q1] 96)).cell? ⟨w.heap.size, 3, none⟩ = some (.slice A1 m1 q1) := by rw [World.cell?_alloc_new]; rfl
  have HC := Lib.hid (And.intro b0 (And.intro b1 (And.intro b2 b3)))
  have hkd := kd_lt x
  have hk1 : 1 ≤ (kd x : Int) := by omega
  have hk2 : (kd x : Int) < 4 := by omega
  have hen := wf_enters x
  have HI := Lib.hid (write_any _ x (Nat.lt_succ_self _))
  clear hv hl hba b0 b1 b2 b3
  go_enter Tryz.func146, Tryz.ntmps146
  go_wp2_with fail
  refine (codecCheck_any x _ w _ HV.out HBA.out hd).mono ?_
  rintro e w1 ⟨rfl, hb1⟩
  obtain ⟨b0, b1, b2, b3⟩ := HC.out
  replace b0 := keep hb1 b0
  replace b1 := keep hb1 b1
  replace b2 := keep hb1 b2
  replace b3 := keep hb1 b3
  have HB1 := Lib.hid (below_step HBA.out hb1)
  clear hb1
  go_wp2
  refine Rely.regionB _ _ (by kernel_rfl) [1,2,7] [0,3,4,5,6] [8,9,10] (EV x) (fun _ => True) (by kernel_rfl) (fun _ _ => trivial) ?_
  (refine Rely.Fx.run ?rlc1 rfl rfl (fun _ _ => ?rlh1) ?rlk1; (case rlh1 => (go_simp; try rfl)); go_simp)
  (refine Rely.Fx.load ?rlc2 rfl (by kernel_rfl) rfl (Rely.Stab.refl _ _ _) (fun _ hb => ?rlh2) ?rlk2; (case rlh2 => (have hrl := (hb.cell (cell_old b0)).trans b0; go_simp; try rfl)); go_simp)
  (refine Rely.Fx.load ?rlcz rfl (by kernel_rfl) rfl (Rely.Stab.refl _ _ _) (fun _ hb => ?rlhz) ?rlkz; (case rlhz => (have hr0 := (hb.cell (cell_old b0)).trans b0; have hr1 := (hb.cell (cell_old b1)).trans b1; have hr2 := (hb.cell (cell_old b2)).trans b2; have hr3 := (hb.cell (cell_old b3)).trans b3; go_simp; try rfl)); go_simp)
  refine Rely.Fx.done ?_
  (refine Rely.Lt.step (o := ?rlo3) 10 ?rlho3 ?rlhd3 (by simp) ?rlh3 ?rlk3; (case rlho3 => (simp only [List.getElem?_toArray, List.getElem?_cons_zero]; rfl)); (case rlhd3 => rfl))
  · intro w' hb hp
    go_wp2_with fail
    refine (newWriter_any _).mono ?_
    rintro e w2 ⟨nb, c, rfl, hw, hb2⟩
    go_wp2
    exact ⟨_, rfl, ⟨nb, c, rfl, hw⟩, hb.trans (hb2.mono hb.size), fun j _ _ u hu => EV.below hb2 j u hu⟩
  intro v0
  go_simp
  (refine Rely.Lt.step (o := ?rlo4) 13 ?rlho4 ?rlhd4 (by simp) ?rlh4 ?rlk4; (case rlho4 => (simp only [List.getElem?_toArray, List.getElem?_cons_succ, List.getElem?_cons_zero]; rfl)); (case rlhd4 => rfl))
  · intro w' hb hp
    obtain ⟨nb, c, rfl, hw⟩ : EV x 0 v0 w' := hp.get 0 v0 (by simp) (by kernel_rfl)
    clear hp
    go_wp2
    exact ⟨_, rfl, ⟨nb, c, rfl, hw⟩, hb, fun j _ _ u hu => hu⟩
  intro v3
  go_simp
  (refine Rely.Lt.step (o := ?rlo5) 14 ?rlho5 ?rlhd5 (by simp) ?rlh5 ?rlk5; (case rlho5 => (simp only [List.getElem?_toArray, List.getElem?_cons_succ, List.getElem?_cons_zero]; rfl)); (case rlhd5 => rfl))
  · intro w' hb hp
    obtain ⟨nb, c, rfl, hw⟩ : EV x 3 v3 w' := hp.get 3 v3 (by simp) (by kernel_rfl)
    clear hp
    go_wp2
    exact ⟨_, rfl, ⟨nb, c, rfl, hw⟩, hb, fun j _ _ u hu => hu⟩
  intro v4
  go_simp
  (refine Rely.Lt.step (o := ?rlo6) 15 ?rlho6 ?rlhd6 (by simp) ?rlh6 ?rlk6; (case rlho6 => (simp only [List.getElem?_toArray, List.getElem?_cons_succ, List.getElem?_cons_zero]; rfl)); (case rlhd6 => rfl))
  · intro w' hb hp
    obtain ⟨nb, c, rfl, hw⟩ : EV x 4 v4 w' := hp.get 4 v4 (by simp) (by kernel_rfl)
    clear hp
    go_wp2
    exact ⟨_, rfl, ⟨nb, c, rfl, hw⟩, hb, fun j _ _ u hu => hu⟩
  intro v5
  go_simp
  (refine Rely.Lt.step (o := ?rlo7) 16 ?rlho7 ?rlhd7 (by simp) ?rlh7 ?rlk7; (case rlho7 => (simp only [List.getElem?_toArray, List.getElem?_cons_succ, List.getElem?_cons_zero]; rfl)); (case rlhd7 => rfl))
  · intro w' hb hp
    obtain ⟨nb, c, rfl, hw⟩ : EV x 5 v5 w' := hp.get 5 v5 (by simp) (by kernel_rfl)
    have hf := hw.fn x
    clear hp
    go_wp2
    exact ⟨_, rfl, ⟨nb, c, rfl, hw⟩, hb, fun j _ _ u hu => hu⟩
  intro v6
  go_simp
  refine Rely.Lt.done ?_
  intro w' hb hp
  obtain ⟨nb, c, rfl, hw⟩ : EV x 6 v6 w' := hp.one
  have HB2 : Hid (Below w.heap.size w w') := Lib.hid (below_step HB1.out hb)
  have HW := Lib.hid hw
  clear hb hp hw b0 b1 b2 b3
  (refine Rely.Tl.step (o := ?rlo8) ?rlho8 ?rlk8; (case rlho8 => (simp only [List.getElem?_toArray, List.getElem?_cons_succ, List.getElem?_cons_zero]; rfl)))
  go_wp2_with fail
  refine (HI.out w' w' _ _ [] nb c HW.out (HV.out.under HB2.out) (Below.refl _ _) (OwnOf.nil _ _ _ _ _) (by have := HL.out; simpa using this)).mono ?_
  rintro e w5 ⟨v5, rfl, hap⟩
  have hby := hap.own.bytes (by have := HL.out; simpa using this)
  rw [List.nil_append] at hby
  obtain ⟨A5, c5, e5, _⟩ := hby.shape
  have HBY := Lib.hid hby
  have HB5 := Lib.hid (below_step HB2.out hap.low)
  subst e5
  clear hap hby
  go_wp2
  refine ⟨rfl, trivial, ?_⟩
  (refine Rely.Tl.step (o := ?rlo9) ?rlho9 ?rlk9; (case rlho9 => (simp only [List.getElem?_toArray, List.getElem?_cons_succ, List.getElem?_cons_zero]; rfl)))
  go_wp2
  refine ⟨rfl, ?_⟩
  (refine Rely.Tl.last (o := ?rlo10) ?rlho10 ?rlk10; (case rlho10 => (simp only [List.getElem?_toArray, List.getElem?_cons_succ, List.getElem?_cons_zero]; rfl)))
  go_wp2
  refine ⟨rfl, ?_⟩
  go_wp2
  go_ret2
  exact ⟨_, rfl, HBY.out, HB5.out⟩

end Go.Proofs.YtgacdmkhgllceaaGreatDoor
