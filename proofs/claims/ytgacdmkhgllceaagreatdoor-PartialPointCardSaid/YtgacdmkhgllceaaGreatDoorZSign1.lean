/- sign.Verify walked. -/
import Derived.Test.YtgacdmkhgllceaaGreatDoorZEnc1
import Derived.Test.YtgacdmkhgllceaaGreatDoorZRely
import Derived.Test.YtgacdmkhgllceaaGreatDoorZSlices1
import Derived.Deep.Cut
import Derived.Deep.CutRange
namespace Go.Proofs.YtgacdmkhgllceaaGreatDoor
open Go.RowKit

def signTag : List UInt8 := [115, 105, 103, 110]
/-- What a signature's number must be. -/
noncomputable def sigN (key : Int) (msg : List UInt8) (e s : Int) : Nat :=
  hashN signTag (encVal (.list [.int (mulP (powP 4 s) (powP key (-e))), .int key, .text msg]))
/-- Does a signature hold? -/
noncomputable def verB (key : Int) (msg : List UInt8) (e s : Int) : Bool :=
  !oddQ e && !oddQ s && Sg.vld key && decide (e = (sigN key msg e s : Int))

/-- What the values of the last region are. -/
def GV (key : Int) (msg : List UInt8) (r : Int) (j : Nat) (v : Value) (w : World) : Prop :=
  match j with
  | 8 => Items w v [.int r, .int key, .bytes msg]
  | 9 => Bytes w v (encVal (.list ([Item.int r, .int key, .bytes msg].map Item.toVal)))
  | 10 => v = I (hashN signTag (encVal (.list [.int r, .int key, .text msg])) : Int)
  | _ => True
theorem GV.below {key : Int} {msg : List UInt8} {r : Int} {w w' : World} (hb : Below w.heap.size w w') : ∀ (j : Nat) (u : Value), GV key msg r j u w → GV key msg r j u w' := by
  intro j u h
  unfold GV at *
  split at h
  · obtain ⟨A, c, h1, h2, h3, h4⟩ := h
    exact ⟨A, c, h1, h2, h3, fun i hi => by obtain ⟨ad, e1, x, e2, e3⟩ := h4 i hi; exact ⟨ad, e1, x, keep hb e2, e3.below hb⟩⟩
  · exact h.below hb
  · exact h
  · trivial

set_option maxRecDepth 100000 in
set_option maxHeartbeats 2000000 in
theorem verify_any (key : Int) (v : Value) (msg : List UInt8) (e s : Int) (w : World) (hm : Bytes w v msg) (hg : Glob w) (hl : msg.length ≤ 35184372088832) :
    Calls Tryz.prog 26 #[I key, v, .agg #[I e, I s]] w fun r w' => r = .returned (.bool (verB key msg e s)) ∧ Below w.heap.size w w' := by
  have HM := Lib.hid hm
  have HG := Lib.hid hg
  clear hm hg
  go_enter Tryz.func26, Tryz.ntmps26
  go_upto_region 1 with (fail)
  go_cut [27] from 9 to 27 (fun b wx => b = .bool (oddQ e || oddQ s || !Sg.vld key) ∧ wx = w.alloc (.cells #[I e, I s] 50))
  case first =>
    go_wp2_with (refine (valid_any key _).mono ?_; rintro e' w' ⟨rfl, rfl⟩)
    all_goals (go_meet; refine ⟨congrArg Value.bool ?_, rfl⟩; cases hk : Sg.vld key <;> rw [Bool.eq_iff_iff] <;> simp [oddQ] <;> (try simp at *) <;> omega)
  case rest =>
    obtain ⟨rfl, rfl⟩ := hcut
    have b0 : (w.alloc (.cells #[I e, I s] 50)).cell? ⟨w.heap.size, 0, none⟩ = some (I e) := by rw [World.cell?_alloc_new]; rfl
    have b1 : (w.alloc (.cells #[I e, I s] 50)).cell? ⟨w.heap.size, 1, none⟩ = some (I s) := by rw [World.cell?_alloc_new]; rfl
    have hba : Below w.heap.size w (w.alloc (.cells #[I e, I s] 50)) := (Below.refl _ w).alloc (Nat.le_refl _) _
    generalize w.alloc (.cells #[I e, I s] 50) = W at *
    have HBA := Lib.hid hba
    clear hba
    cases hbad : (oddQ e || oddQ s || !Sg.vld key) with
    | true =>
      have HV : Hid (verB key msg e s = false) := Lib.hid (by
        unfold verB; cases h1 : oddQ e <;> cases h2 : oddQ s <;> cases h3 : Sg.vld key <;> simp_all)
      clear b0 b1
      go_wp2
      go_ret
      exact ⟨by rw [HV.out]; rfl, HBA.out⟩
    | false =>
      have h1 : oddQ e = false := by cases h : oddQ e <;> simp_all
      have h2 : oddQ s = false := by cases h : oddQ s <;> simp_all
      have h3 : Sg.vld key = true := by cases h : Sg.vld key <;> simp_all
      have HV : Hid (verB key msg e s = decide (e = (sigN key msg e s : Int))) := Lib.hid (by unfold verB; rw [h1, h2, h3]; simp)
      have he : 0 ≤ e ∧ e < 1073741789 := by unfold oddQ at h1; simp at h1; omega
      have hn : IntKind.i64.wrap (-e) = -e := IntWalk.i64_in _ (by omega)
      have he0 := he.1
      clear h1 h2 he
      have HKR : Hid (0 ≤ key ∧ key < 4611686018427387904) := Lib.hid (by obtain ⟨k1, k2⟩ := vld_range h3; omega)
      have HR : Hid (0 ≤ mulP (powP 4 s) (powP key (-e)) ∧ mulP (powP 4 s) (powP key (-e)) < 4611686018427387904) := Lib.hid (by
        unfold mulP; split <;> omega)
      have HLE : Hid ((encVal (.list ([Item.int (mulP (powP 4 s) (powP key (-e))), .int key, .bytes msg].map Item.toVal))).length ≤ 70368744177664) := Lib.hid (by
        have h1 := enc_int_len HR.out.2
        have h2 := enc_int_len HKR.out.2
        have h3 := enc_text_len (s := msg) (by omega)
        have h4 := enc_list_len (l := [Item.int (mulP (powP 4 s) (powP key (-e))), .int key, .bytes msg].map Item.toVal) (show 3 ≤ 16000 by decide)
        refine Nat.le_trans h4 ?_
        simp only [List.map_cons, List.map_nil, Item.toVal, encVals, List.length_append, List.length_nil]
        omega)
      clear h3
      go_wp2
      refine Rely.regionB _ _ (by kernel_rfl) [0,1,2,3,4,5,6,7,8,9,10,11] [] [12,13] (fun _ _ _ => True) (fun _ => True) (by kernel_rfl) (fun _ _ => trivial) ?_
      (refine Rely.Fx.run ?rlc1 rfl rfl (fun _ _ => ?rlh1) ?rlk1; (case rlh1 => (go_simp; try rfl)); go_simp)
      (refine Rely.Fx.load ?rlc2 rfl (by kernel_rfl) rfl (Rely.Stab.refl _ _ _) (fun _ hb => ?rlh2) ?rlk2; (case rlh2 => (have hrl := (hb.cell (cell_old b1)).trans b1; go_simp; try rfl)); go_simp)
      (refine Rely.Fx.call (o := ?rlo3) (I (powP 4 s)) 31 ?rlho3 ?rlhd3 (by simp) (by kernel_rfl) ?rlh3 ?rlk3; (case rlho3 => (simp only [List.getElem?_toArray, List.getElem?_cons_succ, List.getElem?_cons_zero]; rfl)); (case rlhd3 => rfl))
      · intro w2 hb
        go_wp2_with fail
        refine (sign_power_any 4 s _).mono ?_
        rintro r w3 ⟨rfl, hb3⟩
        go_wp2
        exact ⟨_, rfl, rfl, hb.trans (hb3.mono hb.size), Rely.Stab.none _ _ _ _⟩
      go_simp
      (refine Rely.Fx.run ?rlc4 rfl rfl (fun _ _ => ?rlh4) ?rlk4; (case rlh4 => (go_simp; try rfl)); go_simp)
      (refine Rely.Fx.run ?rlc5 rfl rfl (fun _ _ => ?rlh5) ?rlk5; (case rlh5 => (go_simp; try rfl)); go_simp)
      (refine Rely.Fx.load ?rlc6 rfl (by kernel_rfl) rfl (Rely.Stab.refl _ _ _) (fun _ hb => ?rlh6) ?rlk6; (case rlh6 => (have hrl := (hb.cell (cell_old b0)).trans b0; go_simp; try rfl)); go_simp)
      (refine Rely.Fx.run ?rlc7 rfl rfl (fun _ _ => ?rlh7) ?rlk7; (case rlh7 => (go_simp; try rfl)); go_simp)
      (refine Rely.Fx.call (o := ?rlo8) (I (powP key (-e))) 36 ?rlho8 ?rlhd8 (by simp) (by kernel_rfl) ?rlh8 ?rlk8; (case rlho8 => (simp only [List.getElem?_toArray, List.getElem?_cons_succ, List.getElem?_cons_zero]; rfl)); (case rlhd8 => rfl))
      · intro w2 hb
        go_wp2_with fail
        refine (sign_power_any key (-e) _).mono ?_
        rintro r w3 ⟨rfl, hb3⟩
        go_wp2
        exact ⟨_, rfl, rfl, hb.trans (hb3.mono hb.size), Rely.Stab.none _ _ _ _⟩
      go_simp
      (refine Rely.Fx.call (o := ?rlo9) (Value.tuple #[I (mulP (powP 4 s) (powP key (-e))), I (mulErr (powP 4 s) (powP key (-e)))]) 37 ?rlho9 ?rlhd9 (by simp) (by kernel_rfl) ?rlh9 ?rlk9; (case rlho9 => (simp only [List.getElem?_toArray, List.getElem?_cons_succ, List.getElem?_cons_zero]; rfl)); (case rlhd9 => rfl))
      · intro w2 hb
        go_wp2_with fail
        refine (mulP_any _ _ _).mono ?_
        rintro r w3 ⟨rfl, rfl⟩
        go_wp2
        exact ⟨_, rfl, rfl, hb, Rely.Stab.none _ _ _ _⟩
      go_simp
      (refine Rely.Fx.run ?rlc10 rfl rfl (fun _ _ => ?rlh10) ?rlk10; (case rlh10 => (go_simp; try rfl)); go_simp)
      (refine Rely.Fx.run ?rlc11 rfl rfl (fun _ _ => ?rlh11) ?rlk11; (case rlh11 => (go_simp; try rfl)); go_simp)
      (refine Rely.Fx.run ?rlc12 rfl rfl (fun _ _ => ?rlh12) ?rlk12; (case rlh12 => (go_simp; try rfl)); go_simp)
      refine Rely.Fx.done ?_
      refine Rely.Lt.done ?_
      intro w2 hb _
      replace b0 := (hb.cell (cell_old b0)).trans b0
      have HB2 : Hid (Below w.heap.size w w2) := Lib.hid (HBA.out.trans (hb.mono HBA.out.size))
      clear hb b1 hn
      (refine Rely.Tl.step (o := ?rlo13) ?rlho13 ?rlk13; (case rlho13 => (simp only [List.getElem?_toArray, List.getElem?_cons_succ, List.getElem?_cons_zero]; rfl)))
      go_wp2
      refine ⟨rfl, ?_⟩
      (refine Rely.Tl.last (o := ?rlo14) ?rlho14 ?rlk14; (case rlho14 => (simp only [List.getElem?_toArray, List.getElem?_cons_succ, List.getElem?_cons_zero]; rfl)))
      go_wp2
      refine ⟨rfl, ?_⟩
      go_wp2
      refine Rely.regionB _ _ (by kernel_rfl) [0,1,2,3,4,5,6,7] [8,9,10] [11,12] (GV key msg (mulP (powP 4 s) (powP key (-e)))) (fun _ => True) (by kernel_rfl) (fun _ _ => trivial) ?_
      (refine Rely.Fx.run ?rlc15 rfl rfl (fun _ _ => ?rlh15) ?rlk15; (case rlh15 => (go_simp; try rfl)); go_simp)
      (refine Rely.Fx.load ?rlc16 rfl (by kernel_rfl) rfl (Rely.Stab.refl _ _ _) (fun _ hb => ?rlh16) ?rlk16; (case rlh16 => (have hrl := (hb.cell (cell_old b0)).trans b0; go_simp; try rfl)); go_simp)
      (refine Rely.Fx.run ?rlc17 rfl rfl (fun _ _ => ?rlh17) ?rlk17; (case rlh17 => (go_simp; try rfl)); go_simp)
      (refine Rely.Fx.run ?rlc18 rfl rfl (fun _ _ => ?rlh18) ?rlk18; (case rlh18 => (go_simp; try rfl)); go_simp)
      (refine Rely.Fx.run ?rlc19 rfl rfl (fun _ _ => ?rlh19) ?rlk19; (case rlh19 => (go_simp; try rfl)); go_simp)
      (refine Rely.Fx.run ?rlc20 rfl rfl (fun _ _ => ?rlh20) ?rlk20; (case rlh20 => (go_simp; try rfl)); go_simp)
      (refine Rely.Fx.run ?rlc21 rfl rfl (fun _ _ => ?rlh21) ?rlk21; (case rlh21 => (go_simp; try rfl)); go_simp)
      (refine Rely.Fx.run ?rlc22 rfl rfl (fun _ _ => ?rlh22) ?rlk22; (case rlh22 => (go_simp; try rfl)); go_simp)
      refine Rely.Fx.done ?_
      (refine Rely.Lt.step (o := ?rlo23) 48 ?rlho23 ?rlhd23 (by simp) ?rlh23 ?rlk23; (case rlho23 => (simp only [List.getElem?_toArray, List.getElem?_cons_succ, List.getElem?_cons_zero]; rfl)); (case rlhd23 => rfl))
      · intro w' hb hp
        clear hp
        go_wp2
        exact ⟨_, rfl, Items.new (w := w') [.iface 3 (I (mulP (powP 4 s) (powP key (-e)))), .iface 3 (I key), .iface 28 v] [.int (mulP (powP 4 s) (powP key (-e))), .int key, .bytes msg] _ rfl (show 3 ≤ 1000 by decide) (fun i h1 h2 => by
          have : i = 0 ∨ i = 1 ∨ i = 2 := by simp at h1; omega
          rcases this with rfl | rfl | rfl
          · exact .int _ HR.out.1 HR.out.2
          · exact .int _ HKR.out.1 HKR.out.2
          · exact .bytes _ _ ((HM.out.below HB2.out).below hb)), hb.alloc hb.size _, fun j _ _ u hu => GV.below ((Below.refl _ _).alloc (Nat.le_refl _) _) j u hu⟩
      intro v8
      go_simp
      (refine Rely.Lt.step (o := ?rlo24) 49 ?rlho24 ?rlhd24 (by simp) ?rlh24 ?rlk24; (case rlho24 => (simp only [List.getElem?_toArray, List.getElem?_cons_succ, List.getElem?_cons_zero]; rfl)); (case rlhd24 => rfl))
      · intro w' hb hp
        have hi : GV key msg (mulP (powP 4 s) (powP key (-e))) 8 v8 w' := hp.get 8 v8 (by simp) (by kernel_rfl)
        clear hp
        go_wp2_with fail
        refine (slist_any v8 [.int (mulP (powP 4 s) (powP key (-e))), .int key, .bytes msg] w' hi (by intro it h x e; simp at h; rcases h with rfl | rfl | rfl <;> cases e) (show 3 ≤ 1000 by decide) HLE.out (show 1 ≤ 16 by decide)).mono ?_
        rintro r w3 ⟨u, rfl, hu, hb3⟩
        go_wp2
        exact ⟨_, rfl, hu, hb.trans (hb3.mono hb.size), fun j _ _ u hu => GV.below hb3 j u hu⟩
      intro v9
      go_simp
      (refine Rely.Lt.step (o := ?rlo25) 50 ?rlho25 ?rlhd25 (by simp) ?rlh25 ?rlk25; (case rlho25 => (simp only [List.getElem?_toArray, List.getElem?_cons_succ, List.getElem?_cons_zero]; rfl)); (case rlhd25 => rfl))
      · intro w' hb hp
        have hi : GV key msg (mulP (powP 4 s) (powP key (-e))) 9 v9 w' := hp.get 9 v9 (by simp) (by kernel_rfl)
        clear hp
        go_wp2_with fail
        refine (hash_any signTag v9 _ w' hi (HG.out.below (HB2.out.trans (hb.mono HB2.out.size))) (by decide) HLE.out).mono ?_
        rintro r w3 ⟨rfl, hb3⟩
        go_wp2
        exact ⟨_, rfl, rfl, hb.trans (hb3.mono hb.size), fun j _ _ u hu => GV.below hb3 j u hu⟩
      intro v10
      go_simp
      refine Rely.Lt.done ?_
      intro w3 hb hp
      have hx : GV key msg (mulP (powP 4 s) (powP key (-e))) 10 v10 w3 := hp.one
      obtain rfl : v10 = I (sigN key msg e s : Int) := hx
      have HB3 : Hid (Below w.heap.size w w3) := Lib.hid (HB2.out.trans (hb.mono HB2.out.size))
      clear hb hp b0
      (refine Rely.Tl.step (o := ?rlo26) ?rlho26 ?rlk26; (case rlho26 => (simp only [List.getElem?_toArray, List.getElem?_cons_succ, List.getElem?_cons_zero]; rfl)))
      go_wp2
      refine ⟨rfl, ?_⟩
      (refine Rely.Tl.last (o := ?rlo27) ?rlho27 ?rlk27; (case rlho27 => (simp only [List.getElem?_toArray, List.getElem?_cons_succ, List.getElem?_cons_zero]; rfl)))
      go_wp2
      refine ⟨rfl, ?_⟩
      go_wp2
      go_ret
      exact ⟨by rw [HV.out]; rfl, HB3.out⟩

end Go.Proofs.YtgacdmkhgllceaaGreatDoor

/- (*work).bind, (*work).nonce and the product of all pairs walked. -/
namespace Go.Proofs.YtgacdmkhgllceaaGreatDoor
open Go.RowKit

def bindTag : List UInt8 := [98, 105, 110, 100]
/-- What binds a keeper's pair. -/
def bindN (c0 : Int) (txt : List UInt8) (all : Val) (kp : Int) : Nat := hashN bindTag (encVal (.list [.int c0, .text txt, all, .int kp]))
/-- What bind reads of a work. -/
structure WorkR (W : World) (g : Nat) (c0 : Int) (txt : List UInt8) (all : Val) : Prop where
  fcom : ∃ v cs, W.cell? ⟨g, 3, none⟩ = some v ∧ Ints W v (c0 :: cs)
  ftxt : ∃ v, W.cell? ⟨g, 4, none⟩ = some v ∧ Bytes W v txt
  fall : ∃ a b c d, W.cell? ⟨g, 7, none⟩ = some a ∧ W.cell? ⟨g, 8, none⟩ = some b ∧ W.cell? ⟨g, 9, none⟩ = some c ∧ W.cell? ⟨g, 10, none⟩ = some d ∧ ValV W all (.agg #[a, b, c, d])
  rng : 0 ≤ c0 ∧ c0 < 4611686018427387904
  len : txt.length ≤ 65536
  enc : (encVal all).length ≤ 1000000
  fdep : dep all ≤ 12
theorem WorkR.below {W W' : World} {g : Nat} {c0 : Int} {txt : List UInt8} {all : Val} (h : WorkR W g c0 txt all) (hb : Below W.heap.size W W') : WorkR W' g c0 txt all := by
  obtain ⟨⟨v, cs, e1, e2⟩, ⟨v2, e3, e4⟩, ⟨a, b, c, d, e5, e6, e7, e8, e9⟩, h1, h2, h3, h4⟩ := h
  exact ⟨⟨v, cs, keep hb e1, e2.below hb⟩, ⟨v2, keep hb e3, e4.below hb⟩, ⟨a, b, c, d, keep hb e5, keep hb e6, keep hb e7, keep hb e8, e9.under hb⟩, h1, h2, h3, h4⟩
/-- A pair. -/
structure Pr where
  kp : Int
  no : Int
  d : Int
  e : Int
abbrev Pr.v (x : Pr) : Value := .agg #[I x.kp, I x.no, I x.d, I x.e]
def bindIts (c0 : Int) (txt : List UInt8) (all : Val) (kp : Int) : List Item := [.int c0, .bytes txt, .val all, .int kp]
theorem bindIts_val (c0 : Int) (txt : List UInt8) (all : Val) (kp : Int) : (bindIts c0 txt all kp).map Item.toVal = [.int c0, .text txt, all, .int kp] := rfl
/-- What the values of bind's region are. -/
def BV (c0 : Int) (txt : List UInt8) (all : Val) (kp : Int) (j : Nat) (v : Value) (w : World) : Prop :=
  match j with
  | 21 => Items w v (bindIts c0 txt all kp)
  | 22 => v = I (bindN c0 txt all kp : Int)
  | _ => True
theorem Items.below {w w' : World} {v : Value} {its : List Item} (h : Items w v its) (hb : Below w.heap.size w w') : Items w' v its := by
  obtain ⟨A, c, h1, h2, h3, h4⟩ := h
  exact ⟨A, c, h1, h2, h3, fun i hi => by obtain ⟨ad, e1, x, e2, e3⟩ := h4 i hi; exact ⟨ad, e1, x, keep hb e2, e3.below hb⟩⟩
theorem BV.below {c0 : Int} {txt : List UInt8} {all : Val} {kp : Int} {w w' : World} (hb : Below w.heap.size w w') : ∀ (j : Nat) (u : Value), BV c0 txt all kp j u w → BV c0 txt all kp j u w' := by
  intro j u h
  unfold BV at *
  split at h
  · exact h.below hb
  · exact h
  · trivial

set_option maxRecDepth 100000 in
set_option maxHeartbeats 2000000 in
theorem bind_any (g : Nat) (c0 : Int) (txt : List UInt8) (all : Val) (kp no d e : Int) (w : World) (hw : WorkR w g c0 txt all) (hg : Glob w) (hk : 0 ≤ kp ∧ kp < 4611686018427387904) :
    Calls Tryz.prog 49 #[.pointer (some ⟨g, 0, none⟩), .agg #[I kp, I no, I d, I e]] w fun r w' => r = .returned (I (bindN c0 txt all kp : Int)) ∧ Below w.heap.size w w' := by
  have hba : Below w.heap.size w (w.alloc (.cells #[I kp, I no, I d, I e] 85)) := (Below.refl _ w).alloc (Nat.le_refl _) _
  have b0 : (w.alloc (.cells #[I kp, I no, I d, I e] 85)).cell? ⟨w.heap.size, 0, none⟩ = some (I kp) := by rw [World.cell?_alloc_new]; rfl
  have HW := Lib.hid (hw.below hba)
  have HG := Lib.hid (hg.below hba)
  have HK := Lib.hid hk
  clear hw hg hk
  obtain ⟨⟨vc, cs, e1, e2⟩, ⟨vt, e3, e4⟩, ⟨qa, qb, qc, qd, e5, e6, e7, e8, e9⟩, h1, h2, h3, h4⟩ := HW.out
  obtain ⟨Ac, cc, rfl, hmc⟩ := e2.shape
  obtain ⟨adc, rfl, ec⟩ := e2.at 0 (by simp)
  rw [List.getElem_cons_zero, show adc.add 0 = adc by simp [Addr.add]] at ec
  have hlc : 0 < (c0 :: cs).length := by simp
  have HLE : Hid ((encVal (.list ((bindIts c0 txt all kp).map Item.toVal))).length ≤ 70368744177664) := Lib.hid (by
    have k1 := enc_int_len h1.2
    have k2 := enc_int_len HK.out.2
    have k3 := enc_text_len (s := txt) (by omega)
    have k4 := enc_list_len (l := (bindIts c0 txt all kp).map Item.toVal) (show 4 ≤ 16000 by decide)
    refine Nat.le_trans k4 ?_
    rw [bindIts_val]
    simp only [encVals, List.length_append, List.length_nil]
    omega)
  have HD : Hid (dep (.list ((bindIts c0 txt all kp).map Item.toVal)) ≤ 16) := Lib.hid (by
    rw [bindIts_val]
    simp only [dep, deps]
    omega)
  have E4 := Lib.hid e4
  have E9 := Lib.hid e9
  have H1 := Lib.hid h1
  have HBA := Lib.hid hba
  generalize (c0 :: cs).length = n at *
  clear e2 e4 e9 h1 h2 h3 h4 hmc HW hba
  go_enter Tryz.func49, Tryz.ntmps49
  go_wp2
  generalize w.alloc (.cells #[I kp, I no, I d, I e] 85) = W at *
  refine Rely.regionB _ _ (by kernel_rfl) [0,1,2,3,4,5,6,7,8,9,10,11,12,13,14,15,16,17,18,19,20] [21,22] [23] (BV c0 txt all kp) (fun _ => True) (by kernel_rfl) (fun _ _ => trivial) ?_
  (refine Rely.Fx.run ?rlc1 rfl rfl (fun _ _ => ?rlh1) ?rlk1; (case rlh1 => (go_simp; try rfl)); go_simp)
  (refine Rely.Fx.run ?rlc2 rfl rfl (fun _ _ => ?rlh2) ?rlk2; (case rlh2 => (go_simp; try rfl)); go_simp)
  (refine Rely.Fx.run ?rlc3 rfl rfl (fun _ _ => ?rlh3) ?rlk3; (case rlh3 => (go_simp; try rfl)); go_simp)
  (refine Rely.Fx.run ?rlc4 rfl rfl (fun _ _ => ?rlh4) ?rlk4; (case rlh4 => (go_simp; try rfl)); go_simp)
  (refine Rely.Fx.load ?rlc5 rfl (by kernel_rfl) rfl (Rely.Stab.refl _ _ _) (fun _ hb => ?rlh5) ?rlk5; (case rlh5 => (have hrl := (hb.cell (cell_old e1)).trans e1; go_simp; try rfl)); go_simp)
  (refine Rely.Fx.run ?rlc6 rfl rfl (fun _ _ => ?rlh6) ?rlk6; (case rlh6 => (go_simp; try rfl)); go_simp)
  (refine Rely.Fx.load ?rlc7 rfl (by kernel_rfl) rfl (Rely.Stab.refl _ _ _) (fun _ hb => ?rlh7) ?rlk7; (case rlh7 => (have hrl := (hb.cell (cell_old ec)).trans ec; go_simp; try rfl)); go_simp)
  (refine Rely.Fx.run ?rlc8 rfl rfl (fun _ _ => ?rlh8) ?rlk8; (case rlh8 => (go_simp; try rfl)); go_simp)
  (refine Rely.Fx.run ?rlc9 rfl rfl (fun _ _ => ?rlh9) ?rlk9; (case rlh9 => (go_simp; try rfl)); go_simp)
  (refine Rely.Fx.run ?rlc10 rfl rfl (fun _ _ => ?rlh10) ?rlk10; (case rlh10 => (go_simp; try rfl)); go_simp)
  (refine Rely.Fx.run ?rlc11 rfl rfl (fun _ _ => ?rlh11) ?rlk11; (case rlh11 => (go_simp; try rfl)); go_simp)
  (refine Rely.Fx.load ?rlc12 rfl (by kernel_rfl) rfl (Rely.Stab.refl _ _ _) (fun _ hb => ?rlh12) ?rlk12; (case rlh12 => (have hrl := (hb.cell (cell_old e3)).trans e3; go_simp; try rfl)); go_simp)
  (refine Rely.Fx.run ?rlc13 rfl rfl (fun _ _ => ?rlh13) ?rlk13; (case rlh13 => (go_simp; try rfl)); go_simp)
  (refine Rely.Fx.run ?rlc14 rfl rfl (fun _ _ => ?rlh14) ?rlk14; (case rlh14 => (go_simp; try rfl)); go_simp)
  (refine Rely.Fx.run ?rlc15 rfl rfl (fun _ _ => ?rlh15) ?rlk15; (case rlh15 => (go_simp; try rfl)); go_simp)
  (refine Rely.Fx.run ?rlc16 rfl rfl (fun _ _ => ?rlh16) ?rlk16; (case rlh16 => (go_simp; try rfl)); go_simp)
  (refine Rely.Fx.load ?rlcz rfl (by kernel_rfl) rfl (Rely.Stab.refl _ _ _) (fun _ hb => ?rlhz) ?rlkz; (case rlhz => (have hr0 := (hb.cell (cell_old e5)).trans e5; have hr1 := (hb.cell (cell_old e6)).trans e6; have hr2 := (hb.cell (cell_old e7)).trans e7; have hr3 := (hb.cell (cell_old e8)).trans e8; go_simp; try rfl)); go_simp)
  (refine Rely.Fx.run ?rlc17 rfl rfl (fun _ _ => ?rlh17) ?rlk17; (case rlh17 => (go_simp; try rfl)); go_simp)
  (refine Rely.Fx.run ?rlc18 rfl rfl (fun _ _ => ?rlh18) ?rlk18; (case rlh18 => (go_simp; try rfl)); go_simp)
  (refine Rely.Fx.load ?rlc19 rfl (by kernel_rfl) rfl (Rely.Stab.refl _ _ _) (fun _ hb => ?rlh19) ?rlk19; (case rlh19 => (have hrl := (hb.cell (cell_old b0)).trans b0; go_simp; try rfl)); go_simp)
  (refine Rely.Fx.run ?rlc20 rfl rfl (fun _ _ => ?rlh20) ?rlk20; (case rlh20 => (go_simp; try rfl)); go_simp)
  refine Rely.Fx.done ?_
  (refine Rely.Lt.step (o := ?rlo21) 26 ?rlho21 ?rlhd21 (by simp) ?rlh21 ?rlk21; (case rlho21 => (simp only [List.getElem?_toArray, List.getElem?_cons_succ, List.getElem?_cons_zero]; rfl)); (case rlhd21 => rfl))
  · intro w' hb hp
    clear hp
    go_wp2
    exact ⟨_, rfl, Items.new (w := w') [.iface 3 (I c0), .iface 28 vt, .iface 96 (.agg #[qa, qb, qc, qd]), .iface 3 (I kp)] (bindIts c0 txt all kp) _ rfl (show 4 ≤ 1000 by decide) (fun i j1 j2 => by
          have : i = 0 ∨ i = 1 ∨ i = 2 ∨ i = 3 := by simp at j1; omega
          rcases this with rfl | rfl | rfl | rfl
          · exact .int _ H1.out.1 H1.out.2
          · exact .bytes _ _ (E4.out.below hb)
          · exact .val _ _ (E9.out.under hb)
          · exact .int _ HK.out.1 HK.out.2), hb.alloc hb.size _, fun j _ _ u hu => BV.below ((Below.refl _ _).alloc (Nat.le_refl _) _) j u hu⟩
  intro v21
  go_simp
  (refine Rely.Lt.step (o := ?rlo22) 27 ?rlho22 ?rlhd22 (by simp) ?rlh22 ?rlk22; (case rlho22 => (simp only [List.getElem?_toArray, List.getElem?_cons_succ, List.getElem?_cons_zero]; rfl)); (case rlhd22 => rfl))
  · intro w' hb hp
    have hi : BV c0 txt all kp 21 v21 w' := hp.get 21 v21 (by simp) (by kernel_rfl)
    clear hp
    go_wp2_with fail
    refine (phash_any bindTag v21 (bindIts c0 txt all kp) w' hi (HG.out.below hb) (show 4 ≤ 1000 by decide) HLE.out HD.out (by decide)).mono ?_
    rintro r w3 ⟨rfl, hb3⟩
    go_wp2
    exact ⟨_, rfl, rfl, hb.trans (hb3.mono hb.size), fun j _ _ u hu => BV.below hb3 j u hu⟩
  intro v22
  go_simp
  refine Rely.Lt.done ?_
  intro w3 hb hp
  obtain rfl : v22 = I (bindN c0 txt all kp : Int) := hp.one
  have HB3 : Hid (Below w.heap.size w w3) := Lib.hid (HBA.out.trans (hb.mono HBA.out.size))
  clear hb hp b0 e1 e3 e5 e6 e7 e8 ec
  (refine Rely.Tl.last (o := ?rlo23) ?rlho23 ?rlk23; (case rlho23 => (simp only [List.getElem?_toArray, List.getElem?_cons_succ, List.getElem?_cons_zero]; rfl)))
  go_wp2
  refine ⟨rfl, ?_⟩
  go_wp2
  go_ret
  exact ⟨rfl, HB3.out⟩

/-- What a pair gives to the point. -/
noncomputable def nonceN (c0 : Int) (txt : List UInt8) (all : Val) (x : Pr) : Int := mulP x.d (powP x.e (bindN c0 txt all x.kp : Int))

set_option maxRecDepth 100000 in
set_option maxHeartbeats 2000000 in
theorem nonce_any (g : Nat) (c0 : Int) (txt : List UInt8) (all : Val) (kp no d e : Int) (w : World) (hw : WorkR w g c0 txt all) (hg : Glob w) (hk : 0 ≤ kp ∧ kp < 4611686018427387904) :
    Calls Tryz.prog 70 #[.pointer (some ⟨g, 0, none⟩), .agg #[I kp, I no, I d, I e]] w fun r w' => r = .returned (I (mulP d (powP e (bindN c0 txt all kp : Int)))) ∧ Below w.heap.size w w' := by
  have hba : Below w.heap.size w (w.alloc (.cells #[I kp, I no, I d, I e] 85)) := (Below.refl _ w).alloc (Nat.le_refl _) _
  have b0 : (w.alloc (.cells #[I kp, I no, I d, I e] 85)).cell? ⟨w.heap.size, 0, none⟩ = some (I kp) := by rw [World.cell?_alloc_new]; rfl
  have b1 : (w.alloc (.cells #[I kp, I no, I d, I e] 85)).cell? ⟨w.heap.size, 1, none⟩ = some (I no) := by rw [World.cell?_alloc_new]; rfl
  have b2 : (w.alloc (.cells #[I kp, I no, I d, I e] 85)).cell? ⟨w.heap.size, 2, none⟩ = some (I d) := by rw [World.cell?_alloc_new]; rfl
  have b3 : (w.alloc (.cells #[I kp, I no, I d, I e] 85)).cell? ⟨w.heap.size, 3, none⟩ = some (I e) := by rw [World.cell?_alloc_new]; rfl
  have HW := Lib.hid (hw.below hba)
  have HG := Lib.hid (hg.below hba)
  have HBA := Lib.hid hba
  have HK := Lib.hid hk
  clear hw hg hba hk
  go_enter Tryz.func70, Tryz.ntmps70
  go_wp2
  generalize w.alloc (.cells #[I kp, I no, I d, I e] 85) = W at *
  refine Rely.regionB _ _ (by kernel_rfl) [0,1,2,3,4,5,6,7,8,9,10,11] [] [12,13] (fun _ _ _ => True) (fun _ => True) (by kernel_rfl) (fun _ _ => trivial) ?_
  (refine Rely.Fx.run ?rlc24 rfl rfl (fun _ _ => ?rlh24) ?rlk24; (case rlh24 => (go_simp; try rfl)); go_simp)
  (refine Rely.Fx.load ?rlc25 rfl (by kernel_rfl) rfl (Rely.Stab.refl _ _ _) (fun _ hb => ?rlh25) ?rlk25; (case rlh25 => (have hrl := (hb.cell (cell_old b2)).trans b2; go_simp; try rfl)); go_simp)
  (refine Rely.Fx.run ?rlc26 rfl rfl (fun _ _ => ?rlh26) ?rlk26; (case rlh26 => (go_simp; try rfl)); go_simp)
  (refine Rely.Fx.load ?rlc27 rfl (by kernel_rfl) rfl (Rely.Stab.refl _ _ _) (fun _ hb => ?rlh27) ?rlk27; (case rlh27 => (have hrl := (hb.cell (cell_old b3)).trans b3; go_simp; try rfl)); go_simp)
  (refine Rely.Fx.run ?rlc28 rfl rfl (fun _ _ => ?rlh28) ?rlk28; (case rlh28 => (go_simp; try rfl)); go_simp)
  (refine Rely.Fx.load ?rlcz rfl (by kernel_rfl) rfl (Rely.Stab.refl _ _ _) (fun _ hb => ?rlhz) ?rlkz; (case rlhz => (have hr0 := (hb.cell (cell_old b0)).trans b0; have hr1 := (hb.cell (cell_old b1)).trans b1; have hr2 := (hb.cell (cell_old b2)).trans b2; have hr3 := (hb.cell (cell_old b3)).trans b3; go_simp; try rfl)); go_simp)
  (refine Rely.Fx.call (o := ?rlo29) (I (bindN c0 txt all kp : Int)) 14 ?rlho29 ?rlhd29 (by simp) (by kernel_rfl) ?rlh29 ?rlk29; (case rlho29 => (simp only [List.getElem?_toArray, List.getElem?_cons_succ, List.getElem?_cons_zero]; rfl)); (case rlhd29 => rfl))
  · intro w2 hb
    go_wp2_with fail
    refine (bind_any g c0 txt all kp no d e _ (HW.out.below hb) (HG.out.below hb) HK.out).mono ?_
    rintro r w3 ⟨rfl, hb3⟩
    go_wp2
    exact ⟨_, rfl, rfl, hb.trans (hb3.mono hb.size), Rely.Stab.none _ _ _ _⟩
  go_simp
  (refine Rely.Fx.call (o := ?rlo30) (I (powP e (bindN c0 txt all kp : Int))) 15 ?rlho30 ?rlhd30 (by simp) (by kernel_rfl) ?rlh30 ?rlk30; (case rlho30 => (simp only [List.getElem?_toArray, List.getElem?_cons_succ, List.getElem?_cons_zero]; rfl)); (case rlhd30 => rfl))
  · intro w2 hb
    go_wp2_with fail
    refine (partial_power_any e (bindN c0 txt all kp : Int) _).mono ?_
    rintro r w3 ⟨rfl, hb3⟩
    go_wp2
    exact ⟨_, rfl, rfl, hb.trans (hb3.mono hb.size), Rely.Stab.none _ _ _ _⟩
  go_simp
  (refine Rely.Fx.call (o := ?rlo31) (Value.tuple #[I (mulP d (powP e (bindN c0 txt all kp : Int))), I (mulErr d (powP e (bindN c0 txt all kp : Int)))]) 16 ?rlho31 ?rlhd31 (by simp) (by kernel_rfl) ?rlh31 ?rlk31; (case rlho31 => (simp only [List.getElem?_toArray, List.getElem?_cons_succ, List.getElem?_cons_zero]; rfl)); (case rlhd31 => rfl))
  · intro w2 hb
    go_wp2_with fail
    refine (mulP_any _ _ _).mono ?_
    rintro r w3 ⟨rfl, rfl⟩
    go_wp2
    exact ⟨_, rfl, rfl, hb, Rely.Stab.none _ _ _ _⟩
  go_simp
  (refine Rely.Fx.run ?rlc32 rfl rfl (fun _ _ => ?rlh32) ?rlk32; (case rlh32 => (go_simp; try rfl)); go_simp)
  (refine Rely.Fx.run ?rlc33 rfl rfl (fun _ _ => ?rlh33) ?rlk33; (case rlh33 => (go_simp; try rfl)); go_simp)
  (refine Rely.Fx.run ?rlc34 rfl rfl (fun _ _ => ?rlh34) ?rlk34; (case rlh34 => (go_simp; try rfl)); go_simp)
  refine Rely.Fx.done ?_
  refine Rely.Lt.done ?_
  intro w2 hb _
  have HB2 : Hid (Below w.heap.size w w2) := Lib.hid (HBA.out.trans (hb.mono HBA.out.size))
  clear hb b0 b1 b2 b3
  (refine Rely.Tl.step (o := ?rlo35) ?rlho35 ?rlk35; (case rlho35 => (simp only [List.getElem?_toArray, List.getElem?_cons_succ, List.getElem?_cons_zero]; rfl)))
  go_wp2
  refine ⟨rfl, ?_⟩
  (refine Rely.Tl.last (o := ?rlo36) ?rlho36 ?rlk36; (case rlho36 => (simp only [List.getElem?_toArray, List.getElem?_cons_succ, List.getElem?_cons_zero]; rfl)))
  go_wp2
  refine ⟨rfl, ?_⟩
  go_wp2
  go_ret
  exact ⟨rfl, HB2.out⟩

/-- A list of pairs. -/
def PairE (W : World) (a : Addr) (x : Pr) : Prop := W.cell? a = some (I x.kp) ∧ W.cell? ⟨a.block, a.off + 1, none⟩ = some (I x.no) ∧ W.cell? ⟨a.block, a.off + 2, none⟩ = some (I x.d) ∧ W.cell? ⟨a.block, a.off + 3, none⟩ = some (I x.e) ∧ a.spot = none
def Pairs (W : World) (v : Value) (ps : List Pr) : Prop := Sl 4 PairE W v ps
theorem PairE.stays : Stays PairE := fun _ _ _ _ h ⟨e1, e2, e3, e4, e5⟩ => ⟨(h _ (cell_old e1)).trans e1, (h _ (cell_old e2)).trans e2, (h _ (cell_old e3)).trans e3, (h _ (cell_old e4)).trans e4, e5⟩
theorem Pairs.below {W W' : World} {v : Value} {ps : List Pr} (h : Pairs W v ps) (hb : Below W.heap.size W W') : Pairs W' v ps := Sl.stays PairE.stays (Below.old hb) h
theorem Pairs.shape {W : World} {v : Value} {ps : List Pr} (h : Pairs W v ps) : ∃ A c, v = .slice A ps.length c ∧ ps.length ≤ 140737488355328 := by
  obtain ⟨A, c, h1, _, h3, _⟩ := h
  exact ⟨A, c, h1, h3⟩
theorem Pairs.at {W : World} {A : Option Addr} {n c : Nat} {ps : List Pr} (h : Pairs W (.slice A n c) ps) (i : Nat) (hi : i < ps.length) : ∃ ad, A = some ad ∧ PairE W (ad.add (i * 4)) ps[i] := by
  obtain ⟨A', c', h1, h2, h3, h4⟩ := h
  injection h1 with h1 h5 h6
  obtain ⟨ad, e1, e2⟩ := h4 i hi
  exact ⟨ad, h1.trans e1, e2⟩
/-- A product. -/
noncomputable def prodP {α : Type} (f : α → Int) (l : List α) : Int := l.foldl (fun x y => mulP x (f y)) 1
theorem prodP_take {α : Type} (f : α → Int) {l : List α} {k : Nat} (h : k < l.length) : prodP f (l.take (k + 1)) = mulP (prodP f (l.take k)) (f l[k]) := by
  unfold prodP; rw [List.take_succ_eq_append_getElem h, List.foldl_append]; rfl

set_option maxRecDepth 100000 in
set_option maxHeartbeats 2000000 in
theorem points_any (g : Nat) (c0 : Int) (txt : List UInt8) (all : Val) (v : Value) (ps : List Pr) (w : World) (hv : Pairs w v ps) (hw : WorkR w g c0 txt all) (hg : Glob w) (hk : ∀ x ∈ ps, 0 ≤ x.kp ∧ x.kp < 4611686018427387904) :
    Calls Tryz.prog 113 #[v, .func (.func 70) #[.pointer (some ⟨g, 0, none⟩)] #[]] w fun r w' => r = .returned (I (prodP (nonceN c0 txt all) ps)) ∧ Below w.heap.size w w' := by
  obtain ⟨A, c, rfl, hm⟩ := hv.shape
  have HV := Lib.hid hv
  have HW := Lib.hid hw
  have HG := Lib.hid hg
  have HK := Lib.hid hk
  clear hv hw hg hk
  go_enter Tryz.func113, Tryz.ntmps113
  go_wp2
  go_loopw [5, 7, 10] (fun x _ i wr => ∃ k : Nat, k ≤ ps.length ∧ i = I k ∧ x = I (prodP (nonceN c0 txt all) (ps.take k)) ∧ Hid (Below w.heap.size w wr)) (fun _ _ i _ => ps.length - (intOf i).toNat)
  case atStart => exact ⟨0, Nat.zero_le _, rfl, rfl, Lib.hid (Below.refl _ _)⟩
  case round =>
    obtain ⟨k, hk, rfl, rfl, hbw⟩ := hrel
    by_cases hlt : k < ps.length
    · obtain ⟨ad, rfl, hp⟩ := HV.out.at k hlt
      obtain ⟨e1, e2, e3, e4, e5⟩ := PairE.stays _ _ _ _ (Below.old hbw.out) hp
      have hN := Lib.hid (prodP_take (nonceN c0 txt all) hlt)
      have HKX := Lib.hid (HK.out ps[k] (List.getElem_mem hlt))
      generalize ps[k] = x at *
      have HX : Hid (nonceN c0 txt all x = mulP x.d (powP x.e (bindN c0 txt all x.kp : Int))) := Lib.hid rfl
      clear hp
      generalize prodP (nonceN c0 txt all) (ps.take k) = acc at *
      have HBA : Hid (Below w.heap.size w (wr.alloc (.cells #[I x.kp, I x.no, I x.d, I x.e] 85))) := Lib.hid (hbw.out.alloc hbw.out.size _)
      go_wp2_with fail
      refine (nonce_any g c0 txt all x.kp x.no x.d x.e _ (HW.out.below HBA.out) (HG.out.below HBA.out) HKX.out).mono ?_
      rintro r w2 ⟨rfl, hb2⟩
      have HB2 : Hid (Below w.heap.size w w2) := Lib.hid (HBA.out.trans (hb2.mono HBA.out.size))
      rw [← HX.out]
      clear hb2 e1 e2 e3 e4 e5
      go_wp2_with fail
      refine (mulP_any _ _ _).mono ?_
      rintro r w3 ⟨rfl, rfl⟩
      go_wp2
      go_roundw
      case rel => exact ⟨k + 1, by omega, by go_num, by rw [hN.out], HB2⟩
      case measure => simp [intOf]; omega
    · obtain rfl : k = ps.length := by omega
      have HE : Hid (prodP (nonceN c0 txt all) (ps.take ps.length) = prodP (nonceN c0 txt all) ps) := Lib.hid (by rw [List.take_length])
      rw [HE.out]
      go_wp2
      go_ret
      exact ⟨rfl, hbw.out⟩

end Go.Proofs.YtgacdmkhgllceaaGreatDoor

/- partial.right walked. -/
namespace Go.Proofs.YtgacdmkhgllceaaGreatDoor
open Go.RowKit Go.Shelf

theorem keyRight1_pred : PredOf 161 #[] oddP := by
  refine ⟨enters_of Tryz.func161 (by kernel_rfl) rfl, fun x w => ?_⟩
  go_enter Tryz.func161, Tryz.ntmps161
  go_wp2_with fail
  refine (valid_any x _).mono ?_
  rintro e w' ⟨rfl, rfl⟩
  go_wp2
  go_ret
  exact ⟨rfl, rfl⟩

/-- Is a key right, if its program is? -/
noncomputable def keyR (ep : Int) (rows : List (List Int)) (commits : List Int) : Bool := decide (0 ≤ ep) && decide (ep ≤ 64) && decide (commits.length = cols rows) && !commits.any oddP

set_option maxRecDepth 100000 in
set_option maxHeartbeats 1000000 in
theorem keyRight_any (ep : Int) (vr vo vc : Value) (rows : List (List Int)) (commits : List Int) (w : World) (hr : Rows2 w vr rows) (hk : Ints w vc commits) :
    Calls Tryz.prog 111 #[.agg #[I ep, vr, vo, vc]] w fun e w' => e = .returned (.bool (keyR ep rows commits)) ∧ Below w.heap.size w w' := by
  obtain ⟨A, c, rfl, hm⟩ := hr.shape
  obtain ⟨C, cc, rfl, hmc⟩ := hk.shape
  obtain ⟨W, hW⟩ : ∃ W, w.alloc (.cells #[I ep, .slice A rows.length c, vo, .slice C commits.length cc] 27) = W := ⟨_, rfl⟩
  have b0 : W.cell? ⟨w.heap.size, 0, none⟩ = some (I ep) := by rw [← hW, World.cell?_alloc_new]; rfl
  have b1 : W.cell? ⟨w.heap.size, 1, none⟩ = some (.slice A rows.length c) := by rw [← hW, World.cell?_alloc_new]; rfl
  have b3 : W.cell? ⟨w.heap.size, 3, none⟩ = some (.slice C commits.length cc) := by rw [← hW, World.cell?_alloc_new]; rfl
  have hba : Below w.heap.size w W := by rw [← hW]; exact (Below.refl _ w).alloc (Nat.le_refl _) _
  have HB := Lib.hid hba
  have HR := Lib.hid (hr.below hba)
  have HK := Lib.hid (hk.below hba)
  clear hr hk hba
  go_enter Tryz.func111, Tryz.ntmps111
  go_upto_region 2 with (fail)
  clear hW
  by_cases h : rows.length = 0
  · have E : Hid (cols rows = 1) := Lib.hid (by unfold cols; rw [if_pos h])
    have g0 : ¬ (0 : Int) < (rows.length : Int) := by omega
    go_upto_region 4 with (fail)
    go_cut [2] from 15 to 35 (fun v wx => v = .bool (keyR ep rows commits) ∧ wx = W)
    case first =>
      rw [h] at *
      go_wp2_with (refine (containsInt_any _ _ _ keyRight1_pred _ commits _ HK.out).mono ?_; rintro e' w' ⟨rfl, rfl⟩)
      all_goals (go_meet; refine ⟨congrArg Value.bool ?_, rfl⟩; unfold keyR; rw [E.out]; cases hk : commits.any oddP <;> rw [Bool.eq_iff_iff] <;> simp <;> (try simp at *) <;> omega)
    case rest =>
      obtain ⟨rfl, rfl⟩ := hcut
      go_wp2
      go_ret
      exact ⟨rfl, HB.out⟩
  · have hpos : 0 < rows.length := by omega
    obtain ⟨ad, u, rfl, hc, hu⟩ := HR.out.at 0 hpos
    obtain ⟨A1, c1, rfl, hm1⟩ := hu.shape
    rw [show ad.add 0 = ad by unfold Addr.add; rfl] at hc
    have E : Hid (cols rows = rows[0].length) := Lib.hid (by unfold cols; rw [if_neg h, headD_get hpos])
    have g0 : (0 : Int) < (rows.length : Int) := by omega
    clear hu h
    generalize rows[0].length = n at *
    go_upto_region 4 with (fail)
    go_cut [2] from 15 to 35 (fun v wx => v = .bool (keyR ep rows commits) ∧ wx = W)
    case first =>
      go_wp2_with (refine (containsInt_any _ _ _ keyRight1_pred _ commits _ HK.out).mono ?_; rintro e' w' ⟨rfl, rfl⟩)
      all_goals (go_meet; refine ⟨congrArg Value.bool ?_, rfl⟩; unfold keyR; rw [E.out]; cases hk : commits.any oddP <;> rw [Bool.eq_iff_iff] <;> simp <;> (try simp at *) <;> omega)
    case rest =>
      obtain ⟨rfl, rfl⟩ := hcut
      go_wp2
      go_ret
      exact ⟨rfl, HB.out⟩

end Go.Proofs.YtgacdmkhgllceaaGreatDoor
