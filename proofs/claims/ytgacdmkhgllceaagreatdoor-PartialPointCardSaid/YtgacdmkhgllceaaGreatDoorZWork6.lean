/- partial.Bind walked; the rows of a keeper. -/
import Derived.Test.YtgacdmkhgllceaaGreatDoorZWork5
import Derived.Test.YtgacdmkhgllceaaGreatDoorZPln3
import Derived.Test.YtgacdmkhgllceaaGreatDoorZRange
import Derived.Test.YtgacdmkhgllceaaGreatDoorZApp
import Derived.Test.YtgacdmkhgllceaaGreatDoorZSlices1
import Derived.Deep.QuietTactic
import Derived.BigQuiet
namespace Go.Proofs.YtgacdmkhgllceaaGreatDoor
open Go.RowKit Go.Shelf

theorem results_tmp4 {fn : Func} {t u v x : Tmp} (h : fn.results = #[.tmp t, .tmp u, .tmp v, .tmp x]) (tmps : Array Value) (P : Program) (w : World) :
    (results fn tmps).run P w = .ok (.tuple #[tmps.getD t undef, tmps.getD u undef, tmps.getD v undef, tmps.getD x undef]) w := by
  simp [results, h]
/-- All binds. -/
def bindsOf (c0 : Int) (txt : List UInt8) (ps : List Pr) : List Int := ps.map fun x => (bindN c0 txt (allV ps) x.kp : Int)
/-- What Bind returns. -/
def BindR (w' : World) (ep : Int) (rows : List (List Int)) (owners commits : List Int) (txt : List UInt8) (ps : List Pr) (e : Ending) : Prop :=
  (begE ep rows owners commits txt.length ps ≠ 0 ∧ e = .returned (.tuple #[.slice none 0 0, I 0, I 0, I (begE ep rows owners commits txt.length ps)])) ∨
  (begE ep rows owners commits txt.length ps = 0 ∧ ∃ vb, e = .returned (.tuple #[vb, I (prodP (nonceN (commits.headD 0) txt (allV ps)) ps), I (chN (commits.headD 0) txt ps), I 0]) ∧ Ints w' vb (bindsOf (commits.headD 0) txt ps))
/-- The error of a right start, and its pairs. -/
theorem begE_pairs {ep : Int} {rows : List (List Int)} {owners commits : List Int} {tl : Nat} {ps : List Pr} (h : begE ep rows owners commits tl ps = 0) : ps.length ≤ 64 ∧ ∀ x ∈ ps, (0 ≤ x.kp ∧ x.kp < 64) ∧ (0 ≤ x.no ∧ x.no < 4096) ∧ Sg.vld x.d = true ∧ Sg.vld x.e = true := by
  obtain ⟨h1, h2⟩ := begE_zero h
  refine ⟨(early_zero h1).2.2.2, prsOk_mem ps (-1) (Int.le_refl _) ?_⟩
  unfold goodB at h2
  cases h : prsOk ps (-1) with
  | true => rfl
  | false => rw [h] at h2; exact absurd h2 (by simp)

set_option maxRecDepth 100000 in
set_option maxHeartbeats 2000000 in
theorem bindAll_any (ep : Int) (vr vo vc vt vp : Value) (rows : List (List Int)) (owners commits : List Int) (txt : List UInt8) (ps : List Pr) (w : World) (hr : Rows2 w vr rows) (ho : Ints w vo owners) (hc : Ints w vc commits) (ht : Bytes w vt txt) (hp : Pairs w vp ps) (hg : Glob w) :
    Calls Tryz.prog 17 #[.agg #[I ep, vr, vo, vc], vt, vp] w fun e w' => BindR w' ep rows owners commits txt ps e ∧ Below w.heap.size w w' := by
  obtain ⟨Ap, cp, rfl, hmp⟩ := hp.shape
  have hba : Below w.heap.size w (w.alloc (.cells #[I ep, vr, vo, vc] 27)) := (Below.refl _ w).alloc (Nat.le_refl _) _
  have b0 : (w.alloc (.cells #[I ep, vr, vo, vc] 27)).cell? ⟨w.heap.size, 0, none⟩ = some (I ep) := by rw [World.cell?_alloc_new]; rfl
  have b1 : (w.alloc (.cells #[I ep, vr, vo, vc] 27)).cell? ⟨w.heap.size, 1, none⟩ = some vr := by rw [World.cell?_alloc_new]; rfl
  have b2 : (w.alloc (.cells #[I ep, vr, vo, vc] 27)).cell? ⟨w.heap.size, 2, none⟩ = some vo := by rw [World.cell?_alloc_new]; rfl
  have b3 : (w.alloc (.cells #[I ep, vr, vo, vc] 27)).cell? ⟨w.heap.size, 3, none⟩ = some vc := by rw [World.cell?_alloc_new]; rfl
  have HR := Lib.hid (hr.below hba)
  have HO := Lib.hid (ho.below hba)
  have HC := Lib.hid (hc.below hba)
  have HT := Lib.hid (ht.below hba)
  have HP := Lib.hid (hp.below hba)
  have HG := Lib.hid (hg.below hba)
  have HB := Lib.hid hba
  have HM := Lib.hid hmp
  clear hr ho hc ht hp hg hba hmp
  generalize hW : w.alloc (.cells #[I ep, vr, vo, vc] 27) = W at *
  go_enter Tryz.func17, Tryz.ntmps17
  by_cases hE : begE ep rows owners commits txt.length ps = 0
  · have HE := Lib.hid hE
    clear hE
    go_wp2_with fail
    refine (begin_good ep vr vo vc vt _ rows owners commits txt ps W HR.out HO.out HC.out HT.out HP.out HG.out HE.out).mono ?_
    rintro e w2 ⟨g, vy, vl, rfl, hbg, hb2⟩
    have HBG := Lib.hid hbg
    obtain ⟨c0, hc0⟩ : ∃ c0, c0 = commits.headD 0 := ⟨_, rfl⟩
    have HC0 := Lib.hid hc0
    have HWR : Hid (WorkR w2 g c0 txt (allV ps)) := Lib.hid (by rw [hc0]; exact hbg.wr)
    clear hc0
    have HP2 := Lib.hid (HP.out.below hb2)
    have HG2 := Lib.hid (HG.out.below hb2)
    have HB2 : Hid (Below w.heap.size w w2) := Lib.hid (HB.out.trans (hb2.mono HB.out.size))
    obtain ⟨h64, hmem⟩ := begE_pairs HE.out
    have HMEM := Lib.hid hmem
    have H64 := Lib.hid h64
    clear hbg hb2 b0 b1 b2 b3 hW h64 hmem
    obtain ⟨i0, hi0, hzz⟩ := Option.map_eq_some_iff.1 info_int
    simp only [Prod.mk.injEq] at hzz
    have HI := Lib.hid hi0
    have HZ := Lib.hid hzz
    clear hi0 hzz
    go_wp2
    go_loopw [6, 12, 25] (fun v _ i wr => ∃ k : Nat, k ≤ ps.length ∧ i = I k ∧ Hid (Below w2.heap.size w2 wr) ∧ Hid (OwnOf 3 1 encI wr w2.heap.size v ((bindsOf c0 txt ps).take k))) (fun _ _ i _ => ps.length - (intOf i).toNat)
    case atStart => exact ⟨0, Nat.zero_le _, rfl, Lib.hid (Below.refl _ _), Lib.hid (OwnOf.nil _ _ _ _ _)⟩
    case round =>
      obtain ⟨k, hk, rfl, hbw, how⟩ := hrel
      by_cases hlt : k < ps.length
      · obtain ⟨ad, rfl, hpe⟩ := HP2.out.at k hlt
        obtain ⟨e1, e2, e3, e4, e5⟩ := PairE.stays _ _ _ _ (Below.old hbw.out) hpe
        have HKX := Lib.hid (HMEM.out ps[k] (List.getElem_mem hlt)).1
        have HT1 : Hid ((bindsOf c0 txt ps).take (k + 1) = (bindsOf c0 txt ps).take k ++ [(bindN c0 txt (allV ps) ps[k].kp : Int)]) := Lib.hid (by
          unfold bindsOf; rw [List.take_succ_eq_append_getElem (by rw [List.length_map]; exact hlt), List.getElem_map])
        generalize ps[k] = x at *
        clear hpe
        have HBA : Hid (Below w2.heap.size w2 (wr.alloc (.cells #[I x.kp, I x.no, I x.d, I x.e] 85))) := Lib.hid (hbw.out.alloc hbw.out.size _)
        have HOA := Lib.hid (how.out.alloc (.cells #[I x.kp, I x.no, I x.d, I x.e] 85))
        go_wp2_with fail
        refine (bind_any g c0 txt (allV ps) x.kp x.no x.d x.e _ (HWR.out.below HBA.out) (HG2.out.below HBA.out) (by have := HKX.out; omega)).mono ?_
        rintro e w4 ⟨rfl, hb4⟩
        have HB4 : Hid (Below w2.heap.size w2 w4) := Lib.hid (HBA.out.trans (hb4.mono HBA.out.size))
        have HO4 := Lib.hid (HOA.out.below hb4)
        have hlen : Hid ((((bindsOf c0 txt ps).take k).length + 1) * 8 ≤ 140737488355328) := Lib.hid (by
          have := H64.out; simp [bindsOf]; omega)
        have h64 := H64.out
        clear hb4 e1 e2 e3 e4
        go_wp2_with (at_builtin; refine app_one w2.heap.size rfl _ _ 23 3 (I 0) 1 8 rfl Tryz.underlying23 info_int rfl (by decide) (by decide) encI _ _ (bindN c0 txt (allV ps) x.kp : Int) (by rfl) #[I (bindN c0 txt (allV ps) x.kp : Int)] rfl rfl (by intro u hu; simp at hu; subst hu; rfl) _ (by rfl) rfl HO4.out HB4.out HB4.out.size hlen.out ?_; intro v1 w5 ho5 hb5 _ _ _)
        go_roundw
        case rel => exact ⟨k + 1, by omega, by go_num, Lib.hid hb5, Lib.hid (by rw [HT1.out]; exact ho5)⟩
        case measure => simp [intOf]; omega
      · obtain rfl : k = ps.length := by omega
        have HTL : Hid ((bindsOf c0 txt ps).take ps.length = bindsOf c0 txt ps) := Lib.hid (List.take_of_length_le (by simp [bindsOf]))
        have HIN := Lib.hid ((by have h := how.out; rw [HTL.out] at h; exact h.ints (by have := H64.out; simp [bindsOf]; omega) : Ints wr u6 (bindsOf c0 txt ps)))
        have hwb := HBG.out.wb.below hbw.out
        rw [← HC0.out] at hwb
        have d11 : wr.cell? ⟨g, 11, none⟩ = some (I (prodP (nonceN c0 txt (allV ps)) ps)) := by rw [cell_of_row wr g 11 _ _ (0, 0) hwb]; rfl
        have d12 : wr.cell? ⟨g, 12, none⟩ = some (I (chN c0 txt ps)) := by rw [cell_of_row wr g 12 _ _ (0, 0) hwb]; rfl
        have HBW : Hid (Below w.heap.size w wr) := Lib.hid (HB2.out.trans (hbw.out.mono HB2.out.size))
        clear hwb hlt hk how hbw
        obtain ⟨pt, hpt⟩ : ∃ pt, prodP (nonceN c0 txt (allV ps)) ps = pt := ⟨_, rfl⟩
        obtain ⟨ch, hch⟩ : ∃ ch, chN c0 txt ps = ch := ⟨_, rfl⟩
        rw [hpt] at d11
        rw [hch] at d12
        have HPT := Lib.hid hpt
        have HCH := Lib.hid hch
        clear hpt hch
        go_wp2
        go_quiet (fail)
        go_wp2
        (try simp only [Exit.inBlock, Exit.then])
        refine bodyPost_ret (results_tmp4 rfl _ _ _) rfl ?_
        exact ⟨.inr ⟨HE.out, _, by rw [← HC0.out, HPT.out, HCH.out]; rfl, by rw [← HC0.out]; exact HIN.out⟩, below_drewN HBW.out _⟩
  · have hE2 : (begE ep rows owners commits txt.length ps != 0) = true := bne_iff_ne.2 hE
    have HE := Lib.hid hE
    clear hE
    go_wp2_with fail
    refine (begin_bad ep vr vo vc vt _ rows owners commits txt ps W HR.out HO.out HC.out HT.out HP.out HG.out HE.out).mono ?_
    rintro e w2 ⟨rfl, hb2⟩
    have HB2 : Hid (Below w.heap.size w w2) := Lib.hid (HB.out.trans (hb2.mono HB.out.size))
    clear hb2 b0 b1 b2 b3 hW
    go_wp2
    (try simp only [Exit.inBlock, Exit.then])
    refine bodyPost_ret (results_tmp4 rfl _ _ _) rfl ?_
    exact ⟨.inl ⟨HE.out, rfl⟩, HB2.out⟩

end Go.Proofs.YtgacdmkhgllceaaGreatDoor

/- The rows of a keeper: the iterator, and all of them collected. -/
namespace Go.Proofs.YtgacdmkhgllceaaGreatDoor
open Go.RowKit Go.Shelf
attribute [local go_sem] Oper.semAt_some

theorem rows_any (g : Nat) (kp : Int) (w : World) :
    Calls Tryz.prog 55 #[.pointer (some ⟨g, 0, none⟩), I kp] w fun e w' =>
      e = .returned (.func (.func 128) #[] #[.pointer (some ⟨w.heap.size, 0, none⟩), .pointer (some ⟨w.heap.size + 1, 0, none⟩)]) ∧ w' = (w.alloc (.cells #[.pointer (some ⟨g, 0, none⟩)] 90)).alloc (.cells #[I kp] 3) := by
  go_enter Tryz.func55, Tryz.ntmps55
  go_wp2
  go_ret
  exact ⟨rfl, rfl⟩

/-- What the iterator of a keeper's rows reads. -/
structure RowsN (b2 b3 g : Nat) (kp : Int) (Ao : Option Addr) (co : Nat) (owners : List Int) (W : World) : Prop where
  p2 : W.cell? ⟨b2, 0, none⟩ = some (.pointer (some ⟨g, 0, none⟩))
  p3 : W.cell? ⟨b3, 0, none⟩ = some (I kp)
  own : W.cell? ⟨g, 2, none⟩ = some (.slice Ao owners.length co)
  ints : Ints W (.slice Ao owners.length co) owners
theorem RowsN.below {b2 b3 g : Nat} {kp : Int} {Ao : Option Addr} {co : Nat} {owners : List Int} {W W' : World} (h : RowsN b2 b3 g kp Ao co owners W) (hb : Below W.heap.size W W') : RowsN b2 b3 g kp Ao co owners W' :=
  ⟨keep hb h.p2, keep hb h.p3, keep hb h.own, h.ints.below hb⟩
theorem ownIdx_yes {owners : List Int} {k : Int} {j : Nat} (h : (owners.getD j 0 == k) = true) : ownIdx owners (j + 1) k = ownIdx owners j k ++ [j] := by
  unfold ownIdx; rw [List.range_succ, List.filter_append, List.filter_cons, h]; rfl
theorem ownIdx_no {owners : List Int} {k : Int} {j : Nat} (h : (owners.getD j 0 == k) = false) : ownIdx owners (j + 1) k = ownIdx owners j k := by
  unfold ownIdx; rw [List.range_succ, List.filter_append, List.filter_cons, h]; simp
theorem ownIdx_prefix (owners : List Int) (k : Int) {j n : Nat} (h : j ≤ n) : ownIdx owners j k <+: ownIdx owners n k := by
  unfold ownIdx
  refine List.IsPrefix.filter _ ?_
  obtain ⟨d, rfl⟩ := Nat.exists_eq_add_of_le h
  rw [List.range_add]
  exact List.prefix_append _ _
def encN (i : Nat) : Array Value := #[I i]

set_option maxRecDepth 100000 in
set_option maxHeartbeats 2000000 in
theorem rows1_iter (b2 b3 g : Nat) (kp : Int) (Ao : Option Addr) (co : Nat) (owners : List Int) (w0 : World) (hn : owners.length ≤ 1000) :
    Iter Tryz.prog 128 #[.pointer (some ⟨b2, 0, none⟩), .pointer (some ⟨b3, 0, none⟩)] encN (fun _ => False) (fun _ => False) (fun _ W => RowsN b2 b3 g kp Ao co owners W) (ownIdx owners owners.length kp) w0 := by
  intro nn l J Jx W hW hN hJ hJx hY h0
  refine callsIn_of_wp Tryz.func128 rfl trivial ?_ rfl
  simp only [Tryz.ntmps128, List.size_toArray, List.length_cons, List.length_nil, Nat.reduceAdd, Nat.reduceSub, Array.replicate_succ, Array.replicate_zero, List.push_toArray, List.append_toArray, List.nil_append, List.cons_append]
  have hp2 := (hN _ _ h0).p2
  have hown := (hN _ _ h0).own
  have HY := Lib.hid hY
  have HJ := Lib.hid hJ
  have HNN := Lib.hid hN
  clear hW hY hJ hN
  gi_wp2
  clear hp2 hown
  gi_loopw [4, 5, 13] (fun _ _ v wr => ∃ j : Nat, v = I j ∧ j ≤ owners.length ∧ Hid (J (ownIdx owners j kp) wr)) (fun _ _ v _ => owners.length - (intOf v).toNat)
  case atStart => exact ⟨0, rfl, Nat.zero_le _, Lib.hid h0⟩
  case round =>
    obtain ⟨j, rfl, hj, hJ1⟩ := hrel
    by_cases hlt : j < owners.length
    · have hnd := HNN.out _ _ hJ1.out
      obtain ⟨od, rfl, how⟩ := hnd.ints.at j hlt
      have how2 : wr.cell? (od.add j) = some (I (owners.getD j 0)) := by rw [how]; simp [hlt]
      have hp3 := hnd.p3
      clear hnd how
      generalize hoj : owners.getD j 0 = oj at *
      have HOJ := Lib.hid hoj
      clear hoj
      cases hh : (oj == kp) with
      | false =>
        have HN := Lib.hid (ownIdx_no (show (owners.getD j 0 == kp) = false by rw [HOJ.out]; exact hh))
        gi_wp2
        refine ⟨fun f h => by (cases h), ?_⟩
        gi_wp2
        go_roundw
        case rel => exact ⟨j + 1, by go_num, by omega, Lib.hid (by rw [HN.out]; exact hJ1.out)⟩
        case measure => simp [intOf]; omega
      | true =>
        have HN := Lib.hid (ownIdx_yes (show (owners.getD j 0 == kp) = true by rw [HOJ.out]; exact hh))
        obtain ⟨fn, tmps, assign, body, hy, hR⟩ := HY.out (ownIdx owners j kp) j wr hJ1.out (by rw [← HN.out]; exact ownIdx_prefix owners kp (by omega))
        dsimp only [encN] at hy
        gi_wp2
        refine ⟨fun h => by simp [Fence.wide] at h, hR.mono ?_⟩
        rintro e W' (⟨rfl, hJ', hS⟩ | ⟨rfl, hJx'⟩)
        · have HJ3 := Lib.hid hJ'
          clear hS hJ' hy
          gi_wp2
          go_roundw
          case rel => exact ⟨j + 1, by go_num, by omega, Lib.hid (by rw [HN.out]; exact HJ3.out)⟩
          case measure => simp [intOf]; omega
        · gi_wp2
          refine bodyPost_ret (results_none rfl _ _ _) rfl ?_
          exact ⟨⟨_, rfl⟩, .inr hJx'⟩
    · obtain rfl : j = owners.length := by omega
      gi_wp2
      go_end0
      exact ⟨⟨_, rfl⟩, .inl hJ1.out⟩

end Go.Proofs.YtgacdmkhgllceaaGreatDoor

/- A keeper's rows collected. -/
namespace Go.Proofs.YtgacdmkhgllceaaGreatDoor
open Go.RowKit Go.Shelf
attribute [local go_sem] Oper.semAt_some

/-- What holds while a keeper's rows are gathered. -/
structure AQ (w : World) (pre : List Nat) (W : World) : Prop where
  own : ∃ v, W.cell? ⟨w.heap.size, 0, none⟩ = some v ∧ OwnOf 3 1 encI W (w.heap.size + 3) v (pre.map fun i : Nat => (i : Int))
  frz : W.frozen? ⟨w.heap.size, 0, none⟩ = false
  low : Below w.heap.size w W
theorem AQ.keep {w : World} {pre : List Nat} {A B : World} (h : AQ w pre A) (hs : Same (fun k => k ≠ w.heap.size + 1 ∧ k ≠ w.heap.size + 1 + 1) A B) : AQ w pre B := by
  obtain ⟨⟨v, h1, h2⟩, h3, h4⟩ := h
  exact ⟨⟨v, hs.cell ⟨by dsimp only; omega, by dsimp only; omega⟩ h1, h2.kept fun k e => hs.block k (h2.base_le k e).2 (by have := (h2.base_le k e).1; omega)⟩,
    (hs.frozen (a := ⟨w.heap.size, 0, none⟩) ⟨by dsimp only; omega, by dsimp only; omega⟩ (cell_old h1)).trans h3, h4.trans (hs.below (fun k hk => ⟨by omega, by omega⟩) h4.size)⟩

set_option maxRecDepth 100000 in
set_option maxHeartbeats 2000000 in
theorem appendSeq_any (b2 b3 g : Nat) (kp : Int) (Ao : Option Addr) (co : Nat) (owners : List Int) (w : World) (hr : RowsN b2 b3 g kp Ao co owners w) (hn : owners.length ≤ 1000) :
    Calls Tryz.prog 139 #[.slice none 0 0, .func (.func 128) #[] #[.pointer (some ⟨b2, 0, none⟩), .pointer (some ⟨b3, 0, none⟩)]] w fun e w' =>
      ∃ v, e = .returned v ∧ Ints w' v ((ownIdx owners owners.length kp).map fun i : Nat => (i : Int)) ∧ Below w.heap.size w w' := by
  have hba : Below w.heap.size w (w.alloc (.cells #[.slice none 0 0] 23)) := (Below.refl _ w).alloc (Nat.le_refl _) _
  have hc0 : (w.alloc (.cells #[.slice none 0 0] 23)).cell? ⟨w.heap.size, 0, none⟩ = some (.slice none 0 0) := by rw [World.cell?_alloc_new]; rfl
  have hf0 : (w.alloc (.cells #[.slice none 0 0] 23)).frozen? ⟨w.heap.size, 0, none⟩ = false := (new_cell w (.slice none 0 0) 23 w.heap.size rfl).2
  have hsz : (w.alloc (.cells #[.slice none 0 0] 23)).heap.size = w.heap.size + 1 := by simp
  have hit := rows1_iter b2 b3 g kp Ao co owners (w.alloc (.cells #[.slice none 0 0] 23)) hn
  have HR := Lib.hid hr
  have HQ0 : Hid (AQ w [] (w.alloc (.cells #[.slice none 0 0] 23))) := Lib.hid ⟨⟨_, hc0, OwnOf.nil _ _ _ _ _⟩, hf0, hba⟩
  have HSZ := Lib.hid hsz
  have HLE : Hid ((ownIdx owners owners.length kp).length ≤ 1000) := Lib.hid (by
    unfold ownIdx; exact Nat.le_trans (List.length_filter_le _ _) (by rw [List.length_range]; exact hn))
  clear hr hba hc0 hf0 hsz hn
  refine (callsIn_wide (n := 5)).1 ?_
  refine callsIn_of_wp_marks Tryz.func139 rfl trivial ?_
  simp only [Tryz.ntmps139, List.size_toArray, List.length_cons, List.length_nil, Nat.reduceAdd, Nat.reduceSub, Array.replicate_succ, Array.replicate_zero, List.push_toArray, List.append_toArray, List.nil_append, List.cons_append]
  gi_wp2
  generalize w.alloc (.cells #[.slice none 0 0] 23) = W0 at *
  refine range_law rfl (enters_of Tryz.func128 (by kernel_rfl) rfl) hit (fun _ => rfl) (fun k => k = w.heap.size ∨ w.heap.size + 3 ≤ k) (fun k _ h2 => h2) (fun k h => h.elim) (fun k h => by have := HSZ.out; omega) (fun k h => h.elim)
    (fun pre W' => AQ w pre W') (fun _ _ => False) ?need ?keep (fun _ _ _ h _ => h) ?start ?a1 ?assign ?body ?done ?stop
  case assign =>
    intro l x W' K hK
    dsimp only [encN]
    gi_wp2
    exact hK
  case need => intro s' A' h; exact HR.out.below h.low
  case keep =>
    intro s' A' B' h hs
    have hz := HSZ.out
    exact h.keep (hs.mono fun k _ hk => ⟨fun h => h, by omega, by omega⟩)
  case start => exact HQ0.out
  case stop => intro c' W' hz h; exact h.elim
  case body =>
    rintro l pre x W' hz ⟨⟨v, hc, hown⟩, hf, hlow⟩ hpre
    have hplen : pre.length + 1 ≤ 1000 := by
      have h1 := hpre.length_le
      have h2 := HLE.out
      simp at h1; omega
    have HOWN := Lib.hid hown
    have HLOW := Lib.hid hlow
    have hz' : w.heap.size + 3 ≤ W'.heap.size := by have := HSZ.out; omega
    have hl9 : ((pre.map fun i : Nat => (i : Int)).length + 1) * 8 ≤ 140737488355328 := by rw [List.length_map]; omega
    have HZ := Lib.hid hz'
    clear hown hlow hpre hit hplen hz
    gi_wp2_with (gi_at_builtin; refine app_oneIn (w0 := W') (w.heap.size + 3) rfl _ _ 23 3 (I 0) 1 8 rfl Tryz.underlying23 info_int rfl (by decide) (by decide) encI _ _ (x : Int) (by rfl) #[I x] rfl rfl (by intro u hu; simp at hu; subst hu; rfl) _ (by rfl) rfl HOWN.out (Below.refl _ _) HZ.out hl9 ?_; intro v1 w5 ho5 hb5 hkeep5 hsz5 hat5; have hm : w5.heap[w.heap.size]? = W'.heap[w.heap.size]? := hkeep5 _ (cell_old hc) (fun e => by have := (HOWN.out.base_le _ e).1; omega); have hc5 : w5.cell? ⟨w.heap.size, 0, none⟩ = some v := (World.cell?_of_block (w := W') hm).trans hc; have hf5 : w5.frozen? ⟨w.heap.size, 0, none⟩ = false := (World.frozen?_of_block (w := W') hm).trans hf; obtain ⟨A5, c5, e5⟩ := ho5.shape; rw [List.length_append, List.length_map, List.length_singleton] at e5; subst e5; have HO5 := Lib.hid ho5; have HB5 := Lib.hid hb5; have HK5 := Lib.hid hkeep5; have HS5 := Lib.hid hsz5; clear hm ho5 hb5 hkeep5 hsz5 hat5)
    have HALL : Same (fun k => k ≠ w.heap.size ∧ k < w.heap.size + 3) W' (w5.setCell ⟨w.heap.size, 0, none⟩ (.slice A5 (pre.length + 1) c5)) := by
      have s2 : Same (fun k => k ≠ w.heap.size ∧ k < w.heap.size + 3) W' w5 := ⟨HB5.out.os, HB5.out.tape, HB5.out.output, HS5.out, fun k hk hK => HK5.out k hk fun e => by have := (HOWN.out.base_le _ e).1; omega⟩
      exact s2.setCell (.inl (fun h => h.1 rfl)) _
    refine ⟨HALL.mono fun k _ hk => ⟨fun e => hk (.inl e), by
      have : ¬ w.heap.size + 3 ≤ k := fun e => hk (.inr e)
      omega⟩, ⟨⟨.slice A5 (pre.length + 1) c5, set_same hc5, ?_⟩, set_frozen hf5, HLOW.out.trans (HALL.below (fun k hk => ⟨by omega, by omega⟩) HLOW.out.size)⟩⟩
    rw [List.map_append]
    exact HO5.out.kept fun g hg => by
      have := (HO5.out.base_le g hg).1
      exact Below.heap_setCell _ ⟨w.heap.size, 0, none⟩ _ g (by dsimp only; omega)
  case done =>
    rintro W4 hz ⟨⟨v, hc, hown⟩, hf, hlow⟩ hD
    have hsz := HSZ.out
    have HOWN := Lib.hid hown
    have HLOW := Lib.hid hlow
    clear hown hlow hit hf
    gi_wp2
    refine ⟨by simp, .inl ⟨_, _, rfl, run_takeDeferred hD, ?_⟩⟩
    have hbf : Below w.heap.size w (W4.putObj W0.heap.size (.deferred none)) :=
      HLOW.out.trans (((Same.refl (fun k => k < w.heap.size) _).putObj (.inl (by omega)) _).below (fun k hk => hk) HLOW.out.size)
    refine ⟨v, by simp [results, Tryz.results139, go_sem], _, rfl, ?_, hbf⟩
    refine (HOWN.out.kept fun k e => ?_).ints (by rw [List.length_map]; have := HLE.out; omega)
    have := (HOWN.out.base_le k e).1
    exact World.putObj_heap_other (by omega)

end Go.Proofs.YtgacdmkhgllceaaGreatDoor

/- partial.Fits walked. -/
namespace Go.Proofs.YtgacdmkhgllceaaGreatDoor
open Go.RowKit Go.Shelf

theorem collect_any (b2 b3 g : Nat) (kp : Int) (Ao : Option Addr) (co : Nat) (owners : List Int) (w : World) (hr : RowsN b2 b3 g kp Ao co owners w) (hn : owners.length ≤ 1000) :
    Calls Tryz.prog 72 #[.func (.func 128) #[] #[.pointer (some ⟨b2, 0, none⟩), .pointer (some ⟨b3, 0, none⟩)]] w fun e w' =>
      ∃ v, e = .returned v ∧ Ints w' v ((ownIdx owners owners.length kp).map fun i : Nat => (i : Int)) ∧ Below w.heap.size w w' := by
  go_enter Tryz.func72, Tryz.ntmps72
  go_wp2_with fail
  refine (appendSeq_any b2 b3 g kp Ao co owners _ hr hn).mono ?_
  rintro e w1 ⟨v, rfl, hv, hb⟩
  obtain ⟨xs, hxs⟩ : ∃ xs, (ownIdx owners owners.length kp).map (fun i : Nat => (i : Int)) = xs := ⟨_, rfl⟩
  rw [hxs] at hv
  have HXS := Lib.hid hxs
  have HV := Lib.hid hv
  clear hxs
  obtain ⟨A, c, rfl, _⟩ := hv.shape
  clear hv
  go_wp2
  go_ret
  exact ⟨_, rfl, by rw [HXS.out]; exact HV.out, hb⟩

/-- What a row's share has to give. -/
noncomputable def pubW (rows : List (List Int)) (owners commits y : List Int) (ch : Int) (j : Int) : Int := powP (pubVal rows owners commits j) (mul (y.getD j.toNat 0) ch)
/-- What Fits$1 reads. -/
structure FitN (bk bw g : Nat) (vr vo vc vy : Value) (rows : List (List Int)) (owners commits y : List Int) (ch : Int) (W : World) : Prop where
  k1 : W.cell? ⟨bk, 1, none⟩ = some vr
  k2 : W.cell? ⟨bk, 2, none⟩ = some vo
  k3 : W.cell? ⟨bk, 3, none⟩ = some vc
  pw : W.cell? ⟨bw, 0, none⟩ = some (.pointer (some ⟨g, 0, none⟩))
  c6 : W.cell? ⟨g, 6, none⟩ = some vy
  c12 : W.cell? ⟨g, 12, none⟩ = some (I ch)
  hr : Rows2 W vr rows
  ho : Ints W vo owners
  hc : Ints W vc commits
  hy : Ints W vy y
theorem FitN.below {bk bw g : Nat} {vr vo vc vy : Value} {rows : List (List Int)} {owners commits y : List Int} {ch : Int} {W W' : World} (h : FitN bk bw g vr vo vc vy rows owners commits y ch W) (hb : Below W.heap.size W W') : FitN bk bw g vr vo vc vy rows owners commits y ch W' :=
  ⟨keep hb h.k1, keep hb h.k2, keep hb h.k3, keep hb h.pw, keep hb h.c6, keep hb h.c12, h.hr.below hb, h.ho.below hb, h.hc.below hb, h.hy.below hb⟩

set_option maxRecDepth 100000 in
set_option maxHeartbeats 2000000 in
theorem fits1_any (bk bw g : Nat) (vr vo vc vy : Value) (rows : List (List Int)) (owners commits y : List Int) (ch : Int) (j : Nat) (w : World) (h : FitN bk bw g vr vo vc vy rows owners commits y ch w) (hj : j < y.length) :
    Calls Tryz.prog 67 #[I j, .pointer (some ⟨bk, 0, none⟩), .pointer (some ⟨bw, 0, none⟩)] w fun e w' => e = .returned (I (pubW rows owners commits y ch j)) ∧ Below w.heap.size w w' := by
  have HN := Lib.hid h
  have k1 := h.k1
  have k2 := h.k2
  have k3 := h.k3
  have HPW : Hid (pubW rows owners commits y ch j = powP (pubVal rows owners commits j) (mul (y.getD j 0) ch)) := Lib.hid rfl
  have HYJ : Hid (y.getD j 0 = y[j]) := Lib.hid (by simp [hj])
  clear h
  go_enter Tryz.func67, Tryz.ntmps67
  go_wp2_with fail
  refine (public_any _ _ _ rows owners commits j w HN.out.hr HN.out.ho HN.out.hc).mono ?_
  rintro e w1 ⟨rfl, hb1⟩
  have HN1 := Lib.hid (HN.out.below hb1)
  have HB1 := Lib.hid hb1
  have hpw := HN1.out.pw
  have h6 := HN1.out.c6
  have h12 := HN1.out.c12
  obtain ⟨Ay, cy, rfl, _⟩ := HN1.out.hy.shape
  obtain ⟨ay, rfl, ey⟩ := HN1.out.hy.at j hj
  rw [← HYJ.out] at ey
  clear k1 k2 k3 hb1
  generalize y.getD j 0 = yj at *
  generalize hpv : pubVal rows owners commits j = pv at *
  go_wp2
  refine Rely.regionB _ _ (by kernel_rfl) [0,1,2,3,4,5,6,7,8,9,10,11,12,13] [] [14] (fun _ _ _ => True) (fun _ => True) (by kernel_rfl) (fun _ _ => trivial) ?_
  (refine Rely.Fx.run ?rlc1 rfl rfl (fun _ _ => ?rlh1) ?rlk1; (case rlh1 => (go_simp; try rfl)); go_simp)
  (refine Rely.Fx.load ?rlc2 rfl (by kernel_rfl) rfl (Rely.Stab.refl _ _ _) (fun _ hb => ?rlh2) ?rlk2; (case rlh2 => (have hrl := (hb.cell (cell_old hpw)).trans hpw; go_simp; try rfl)); go_simp)
  (refine Rely.Fx.run ?rlc3 rfl rfl (fun _ _ => ?rlh3) ?rlk3; (case rlh3 => (go_simp; try rfl)); go_simp)
  (refine Rely.Fx.run ?rlc4 rfl rfl (fun _ _ => ?rlh4) ?rlk4; (case rlh4 => (go_simp; try rfl)); go_simp)
  (refine Rely.Fx.load ?rlc5 rfl (by kernel_rfl) rfl (Rely.Stab.refl _ _ _) (fun _ hb => ?rlh5) ?rlk5; (case rlh5 => (have hrl := (hb.cell (cell_old h6)).trans h6; go_simp; try rfl)); go_simp)
  (refine Rely.Fx.run ?rlc6 rfl rfl (fun _ _ => ?rlh6) ?rlk6; (case rlh6 => (go_simp; try rfl)); go_simp)
  (refine Rely.Fx.run ?rlc7 rfl rfl (fun _ _ => ?rlh7) ?rlk7; (case rlh7 => (go_simp; try rfl)); go_simp)
  (refine Rely.Fx.load ?rlc8 rfl (by kernel_rfl) rfl (Rely.Stab.refl _ _ _) (fun _ hb => ?rlh8) ?rlk8; (case rlh8 => (have hrl := (hb.cell (cell_old ey)).trans ey; go_simp; try rfl)); go_simp)
  (refine Rely.Fx.load ?rlc9 rfl (by kernel_rfl) rfl (Rely.Stab.refl _ _ _) (fun _ hb => ?rlh9) ?rlk9; (case rlh9 => (have hrl := (hb.cell (cell_old hpw)).trans hpw; go_simp; try rfl)); go_simp)
  (refine Rely.Fx.run ?rlc10 rfl rfl (fun _ _ => ?rlh10) ?rlk10; (case rlh10 => (go_simp; try rfl)); go_simp)
  (refine Rely.Fx.run ?rlc11 rfl rfl (fun _ _ => ?rlh11) ?rlk11; (case rlh11 => (go_simp; try rfl)); go_simp)
  (refine Rely.Fx.load ?rlc12 rfl (by kernel_rfl) rfl (Rely.Stab.refl _ _ _) (fun _ hb => ?rlh12) ?rlk12; (case rlh12 => (have hrl := (hb.cell (cell_old h12)).trans h12; go_simp; try rfl)); go_simp)
  (refine Rely.Fx.call (o := ?rlo13) (I (mul yj ch)) 28 ?rlho13 ?rlhd13 (by simp) (by kernel_rfl) ?rlh13 ?rlk13; (case rlho13 => (simp only [List.getElem?_toArray, List.getElem?_cons_succ, List.getElem?_cons_zero]; rfl)); (case rlhd13 => rfl))
  · intro w2 hb
    go_wp2_with fail
    refine (mul_any _ _ _).mono ?_
    rintro r w3 ⟨rfl, rfl⟩
    go_wp2
    exact ⟨_, rfl, rfl, hb, Rely.Stab.none _ _ _ _⟩
  go_simp
  (refine Rely.Fx.call (o := ?rlo14) (I (powP pv (mul yj ch))) 29 ?rlho14 ?rlhd14 (by simp) (by kernel_rfl) ?rlh14 ?rlk14; (case rlho14 => (simp only [List.getElem?_toArray, List.getElem?_cons_succ, List.getElem?_cons_zero]; rfl)); (case rlhd14 => rfl))
  · intro w2 hb
    go_wp2_with fail
    refine (partial_power_any _ _ _).mono ?_
    rintro r w3 ⟨rfl, hb3⟩
    go_wp2
    exact ⟨_, rfl, rfl, hb.trans (hb3.mono hb.size), Rely.Stab.none _ _ _ _⟩
  go_simp
  refine Rely.Fx.done ?_
  refine Rely.Lt.done ?_
  intro w2 hb _
  have HB2 : Hid (Below w.heap.size w w2) := Lib.hid (HB1.out.trans (hb.mono HB1.out.size))
  clear hb hpw h6 h12 ey
  (refine Rely.Tl.last (o := ?rlo15) ?rlho15 ?rlk15; (case rlho15 => (simp only [List.getElem?_toArray, List.getElem?_cons_succ, List.getElem?_cons_zero]; rfl)))
  go_wp2
  refine ⟨rfl, ?_⟩
  go_wp2
  go_ret
  exact ⟨ret_int HPW.out.symm, HB2.out⟩

set_option maxRecDepth 100000 in
set_option maxHeartbeats 2000000 in
theorem prodRows_any (bk bw g : Nat) (vr vo vc vy v : Value) (rows : List (List Int)) (owners commits y : List Int) (ch : Int) (js : List Nat) (w : World) (h : FitN bk bw g vr vo vc vy rows owners commits y ch w) (hv : Ints w v (js.map fun i : Nat => (i : Int))) (hj : ∀ j ∈ js, j < y.length) :
    Calls Tryz.prog 71 #[v, .func (.func 67) #[] #[.pointer (some ⟨bk, 0, none⟩), .pointer (some ⟨bw, 0, none⟩)]] w fun e w' => e = .returned (I (prodP (fun j : Nat => pubW rows owners commits y ch j) js)) ∧ Below w.heap.size w w' := by
  obtain ⟨A, c, rfl, hm⟩ := hv.shape
  rw [List.length_map] at *
  have HV := Lib.hid hv
  have HN := Lib.hid h
  have HJ := Lib.hid hj
  clear hv h hj
  go_enter Tryz.func71, Tryz.ntmps71
  go_wp2
  go_loopw [5, 7, 10] (fun x _ i wr => ∃ k : Nat, k ≤ js.length ∧ i = I k ∧ x = I (prodP (fun j : Nat => pubW rows owners commits y ch j) (js.take k)) ∧ Hid (Below w.heap.size w wr)) (fun _ _ i _ => js.length - (intOf i).toNat)
  case atStart => exact ⟨0, Nat.zero_le _, rfl, rfl, Lib.hid (Below.refl _ _)⟩
  case round =>
    obtain ⟨k, hk, rfl, rfl, hbw⟩ := hrel
    by_cases hlt : k < js.length
    · obtain ⟨ad, rfl, hc⟩ := (HV.out.below hbw.out).at k (by rw [List.length_map]; exact hlt)
      rw [List.getElem_map] at hc
      have hN := Lib.hid (prodP_take (fun j : Nat => pubW rows owners commits y ch j) hlt)
      have HJX := Lib.hid (HJ.out js[k] (List.getElem_mem hlt))
      generalize js[k] = x at *
      generalize prodP (fun j : Nat => pubW rows owners commits y ch j) (js.take k) = acc at *
      go_wp2_with fail
      refine (fits1_any bk bw g vr vo vc vy rows owners commits y ch x _ (HN.out.below hbw.out) HJX.out).mono ?_
      rintro r w2 ⟨rfl, hb2⟩
      have HB2 : Hid (Below w.heap.size w w2) := Lib.hid (hbw.out.trans (hb2.mono hbw.out.size))
      clear hb2 hc
      go_wp2_with fail
      refine (mulP_any _ _ _).mono ?_
      rintro r w3 ⟨rfl, rfl⟩
      go_wp2
      go_roundw
      case rel => exact ⟨k + 1, by omega, by go_num, by rw [hN.out], HB2⟩
      case measure => simp [intOf]; omega
    · obtain rfl : k = js.length := by omega
      have HE : Hid (prodP (fun j : Nat => pubW rows owners commits y ch j) (js.take js.length) = prodP (fun j : Nat => pubW rows owners commits y ch j) js) := Lib.hid (by rw [List.take_length])
      rw [HE.out]
      go_wp2
      go_ret
      exact ⟨rfl, hbw.out⟩

end Go.Proofs.YtgacdmkhgllceaaGreatDoor
