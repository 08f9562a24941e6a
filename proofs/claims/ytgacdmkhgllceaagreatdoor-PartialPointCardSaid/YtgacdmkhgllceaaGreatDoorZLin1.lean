import Derived.Test.YtgacdmkhgllceaaGreatDoorZSlices2
import Derived.Test.YtgacdmkhgllceaaGreatDoorZRely
namespace Go.Proofs.YtgacdmkhgllceaaGreatDoor
open Go.RowKit Go.Shelf

/-- A table that is being built: its cells, and the rows that it owns. -/
structure TabO (base : Nat) (W : World) (b m : Nat) (vs : Nat → Value) (L : Nat → List Int) : Prop where
  lt : base ≤ b ∧ b < W.heap.size
  top : ∀ i, i < m → W.cell? ⟨b, i, none⟩ = some (vs i)
  ftop : ∀ i, i < m → W.frozen? ⟨b, i, none⟩ = false
  own : ∀ i, i < m → OwnOf 3 1 encI W base (vs i) (L i)
  ne : ∀ i, i < m → (vs i).ownBlock ≠ some b
  inj : ∀ i j, i < m → j < m → ∀ g, (vs i).ownBlock = some g → (vs j).ownBlock = some g → i = j

theorem TabO.below {base : Nat} {W W' : World} {b m : Nat} {vs : Nat → Value} {L : Nat → List Int} (h : TabO base W b m vs L) (hb : Below W.heap.size W W') : TabO base W' b m vs L :=
  ⟨⟨h.lt.1, Nat.lt_of_lt_of_le h.lt.2 hb.size⟩, fun i hi => (hb.cell h.lt.2).trans (h.top i hi), fun i hi => (World.frozen?_of_block (w := W) (hb.block b h.lt.2)).trans (h.ftop i hi), fun i hi => (h.own i hi).below hb, h.ne, h.inj⟩

def upd {α : Type} (f : Nat → α) (k : Nat) (x : α) : Nat → α := fun i => if i = k then x else f i
theorem upd_same {α : Type} (f : Nat → α) (k : Nat) (x : α) : upd f k x k = x := by simp [upd]
theorem upd_ne {α : Type} (f : Nat → α) {k i : Nat} (x : α) (h : i ≠ k) : upd f k x i = f i := by simp [upd, h]

theorem TabO.congr {base : Nat} {W : World} {b m : Nat} {vs : Nat → Value} {L L' : Nat → List Int} (h : TabO base W b m vs L) (e : ∀ i, i < m → L i = L' i) : TabO base W b m vs L' :=
  ⟨h.lt, h.top, h.ftop, fun i hi => by rw [← e i hi]; exact h.own i hi, h.ne, h.inj⟩

theorem TabO.step {base : Nat} {W w1 : World} {b m : Nat} {vs : Nat → Value} {L : Nat → List Int} (h : TabO base W b m vs L) (k : Nat) (hk : k < m) (v1 : Value) (l1 : List Int) (hown : OwnOf 3 1 encI w1 base v1 l1)
    (hkeep : ∀ j, j < W.heap.size → (vs k).ownBlock ≠ some j → w1.heap[j]? = W.heap[j]?) (hsz : W.heap.size ≤ w1.heap.size) (hat : v1.ownBlock = (vs k).ownBlock ∨ ∃ g, v1.ownBlock = some g ∧ W.heap.size ≤ g) :
    TabO base (w1.setCell ⟨b, k, none⟩ v1) b m (upd vs k v1) (upd L k l1) := by
  have hbb : w1.heap[b]? = W.heap[b]? := hkeep b h.lt.2 (h.ne k hk)
  have hnb : v1.ownBlock ≠ some b := by
    rcases hat with e | ⟨g, e, hg⟩
    · rw [e]; exact h.ne k hk
    · rw [e]; intro q; injection q with q; have := h.lt.2; omega
  have hset : ∀ {v : Value} {xs : List Int}, OwnOf 3 1 encI w1 base v xs → v.ownBlock ≠ some b → OwnOf 3 1 encI (w1.setCell ⟨b, k, none⟩ v1) base v xs := fun ho hne =>
    ho.kept fun j hj => Below.heap_setCell w1 ⟨b, k, none⟩ v1 j (fun e => hne (by rw [hj, e]))
  have hinj2 : ∀ i, i < m → i ≠ k → ∀ g, (vs i).ownBlock = some g → v1.ownBlock = some g → False := fun i hi hne g h1 h2 => by
    rcases hat with e | ⟨g2, e, hg⟩
    · exact hne (h.inj i k hi hk g h1 (by rw [← e]; exact h2))
    · rw [e] at h2; injection h2 with h2
      have := ((h.own i hi).base_le g h1).2; omega
  refine ⟨⟨h.lt.1, by have := h.lt.2; simp [World.setCell]; omega⟩, fun i hi => ?_, fun i hi => ?_, fun i hi => ?_, fun i hi => ?_, fun i j hi hj g h1 h2 => ?_⟩
  · by_cases e : i = k
    · subst e; rw [upd_same]
      exact set_same (u := vs i) ((World.cell?_of_block (w := W) hbb).trans (h.top i hi))
    · rw [upd_ne _ _ e]
      have hc : w1.cell? ⟨b, i, none⟩ = some (vs i) := (World.cell?_of_block (w := W) hbb).trans (h.top i hi)
      exact (World.cell?_setCell_other (h := fun q => e (by injection q with _ q; exact q.symm)) ..).trans hc
  · exact set_frozen ((World.frozen?_of_block (w := W) hbb).trans (h.ftop i hi))
  · by_cases e : i = k
    · subst e; rw [upd_same, upd_same]; exact hset hown hnb
    · rw [upd_ne _ _ e, upd_ne _ _ e]
      refine hset ((h.own i hi).kept fun j hj => hkeep j ((h.own i hi).base_le j hj).2 fun q => e (h.inj i k hi hk j hj q)) (h.ne i hi)
  · by_cases e : i = k
    · subst e; rw [upd_same]; exact hnb
    · rw [upd_ne _ _ e]; exact h.ne i hi
  · by_cases e : i = k
    · subst e
      by_cases e2 : j = i
      · exact e2.symm
      · rw [upd_same] at h1; rw [upd_ne _ _ e2] at h2; exact (hinj2 j hj e2 g h2 h1).elim
    · by_cases e2 : j = k
      · subst e2; rw [upd_same] at h2; rw [upd_ne _ _ e] at h1; exact (hinj2 i hi e g h1 h2).elim
      · rw [upd_ne _ _ e] at h1; rw [upd_ne _ _ e2] at h2; exact h.inj i j hi hj g h1 h2


theorem info_rows : (Tryz.prog.info? 23).map (fun i => (i.zero, i.size, i.bytes)) = some (some (.slice none 0 0), 1, 24) := by kernel_rfl

/-- Column k of the rows, as far as row q. -/
def colUpTo (rows : List (List Int)) (k q : Nat) : List Int := (rows.take q).map fun r => r.getD k 0
theorem colUpTo_succ {rows : List (List Int)} {k q : Nat} (hq : q < rows.length) (hk : k < rows[q].length) : colUpTo rows k (q + 1) = colUpTo rows k q ++ [rows[q][k]] := by
  unfold colUpTo
  rw [List.take_succ_eq_append_getElem hq, List.map_append]
  simp [hk]

/-- The new table. -/
theorem TabO.new {w : World} {n : Nat} {W : World} (hrow : W.ownsRow w.heap.size 23 1 (.slice (some ⟨w.heap.size, 0, none⟩) n n) n (madeCells (Value.slice none 0 0).cells (n * 1)).toList) :
    TabO w.heap.size W w.heap.size n (fun _ => .slice none 0 0) (fun _ => []) := by
  rcases hrow.2 with ⟨h1, _⟩ | ⟨g, cap, cur, h1, h2, h3, h4, h5, h6, h7⟩
  · cases h1
  · simp only [Value.slice.injEq, Option.some.injEq, Addr.mk.injEq] at h1
    obtain ⟨⟨rfl, _⟩, _, rfl⟩ := h1
    have hc : ∀ i, i < n → cur[i]? = some (.slice none 0 0) := fun i hi => by
      have e : (cur.toList.take (n * 1))[i]? = some (.slice none 0 0) := by
        rw [h7]
        show (madeCells #[.slice none 0 0] (n * 1)).toList[i]? = _
        rw [toList_madeCells_one]
        simp [hi]
      rw [List.getElem?_take] at e
      split at e
      · simpa using e
      · cases e
    refine ⟨⟨Nat.le_refl _, (Array.getElem?_eq_some_iff.1 h3).1⟩, fun i hi => ?_, fun i hi => ?_, fun i hi => OwnOf.nil _ _ _ _ _, fun i hi h => by simp [Value.ownBlock] at h, fun i j _ _ g h => by simp [Value.ownBlock] at h⟩
    · rw [cell_of_row W _ i cur _ (0, 0) h3]; exact hc i hi
    · unfold World.frozen?; rw [h3]; rfl

theorem Ints.ofBlock {W : World} {b : Nat} {x : Int} {t : TypeId} (h : W.heap[b]? = some (.cells #[I x] t (0, 0))) : Ints W (.slice (some ⟨b, 0, none⟩) 1 1) [x] := by
  refine ⟨_, _, rfl, ⟨Nat.le_refl _, fun h => by cases h⟩, by simp, fun i hi => ⟨_, rfl, ?_⟩⟩
  have : i = 0 := by simp at hi; exact hi
  subst this
  show W.cell? _ = _
  have e : (⟨b, 0, none⟩ : Addr).add (0 * 1) = ⟨b, 0, none⟩ := by unfold Addr.add; rfl
  rw [e, cell_of_row W b 0 _ t (0, 0) h]
  rfl

set_option maxRecDepth 100000 in
set_option maxHeartbeats 2000000 in
theorem turned_any (vr vm : Value) (rows : List (List Int)) (more : List Int) (w : World) (hr : Rows2 w vr rows) (hm : Ints w vm more) (hrow : ∀ q, (h : q < rows.length) → rows[q].length = more.length) (h1 : rows.length ≤ 1000) (h2 : more.length ≤ 1000) :
    Calls Tryz.prog 179 #[vr, vm] w fun e w' => ∃ b vs, e = .returned (.slice (some ⟨b, 0, none⟩) more.length more.length) ∧ TabO w.heap.size w' b more.length vs (fun k => colUpTo rows k rows.length ++ [more.getD k 0]) ∧ Below w.heap.size w w' := by
  obtain ⟨A, ca, rfl, hma⟩ := hr.shape
  obtain ⟨B, cb, rfl, hmb⟩ := hm.shape
  obtain ⟨i0, hi0, hzz⟩ := Option.map_eq_some_iff.1 info_rows
  simp only [Prod.mk.injEq] at hzz
  have HI := Lib.hid hi0
  have HZ := Lib.hid hzz
  have HR := Lib.hid hr
  have HM := Lib.hid hm
  have HROW := Lib.hid hrow
  have H1 := Lib.hid h1
  have H2 := Lib.hid h2
  clear hr hm hi0 hzz hrow
  go_enter Tryz.func179, Tryz.ntmps179
  go_wp2_with (at_make; refine wpList_make_full _ rfl _ _ 203 (by rfl) w.heap.size 23 i0 (.slice none 0 0) 1 Tryz.underlying203 HI.out HZ.out.1 HZ.out.2.1 .i64 .i64 _ _ more.length (by rfl) (by rfl) rfl rfl (by rw [HZ.out.2.2]; have := H2.out; omega) (by have := H2.out; simp only [maxLen]; omega) (Nat.le_refl _) ?_; intro w1 hown1 hgrow1)
  have HT := Lib.hid (TabO.new hown1)
  have HB := Lib.hid (show Below w.heap.size w w1 from (Below.refl w.heap.size w).grown hgrow1 (Nat.le_refl _) (fun k hk => by cases hk))
  clear hown1 hgrow1
  go_loopw [6, 7, 9, 15] (fun _ _ _ j wr => ∃ (k : Nat) (vs : Nat → Value), k ≤ more.length ∧ j = I k ∧ Hid (TabO w.heap.size wr w.heap.size more.length vs (fun i => if i < k then colUpTo rows i rows.length ++ [more.getD i 0] else [])) ∧ Hid (Below w.heap.size w wr)) (fun _ _ _ j _ => more.length - (intOf j).toNat)
  case atStart => exact ⟨0, _, Nat.zero_le _, rfl, Lib.hid (by simpa using HT.out), HB⟩
  case round =>
    obtain ⟨k, vs, hk, rfl, ht, hb⟩ := hrel
    by_cases hlt : k < more.length
    · obtain ⟨ad, rfl, hc⟩ := (HM.out.below hb.out).at k hlt
      obtain ⟨T, hT⟩ : ∃ T, T = w.heap.size := ⟨_, rfl⟩
      go_wp2
      go_loopw [9, 22] (fun _ j wr' => ∃ (q : Nat) (vs' : Nat → Value), q ≤ rows.length ∧ j = I q ∧ Hid (TabO w.heap.size wr' w.heap.size more.length vs' (fun i => if i < k then colUpTo rows i rows.length ++ [more.getD i 0] else if i = k then colUpTo rows k q else [])) ∧ Hid (Below w.heap.size w wr')) (fun _ j _ => rows.length - (intOf j).toNat)
      case atStart => exact ⟨0, vs, Nat.zero_le _, rfl, Lib.hid (by simpa [colUpTo] using ht.out), hb⟩
      case round =>
        obtain ⟨q, vs1, hq, rfl, ht1, hb1⟩ := hrel
        by_cases hlq : q < rows.length
        · obtain ⟨ad2, r, rfl, hc2, hru⟩ := (HR.out.below hb1.out).at q hlq
          have hlen := HROW.out q hlq
          obtain ⟨A1, c1, rfl, hm1⟩ := hru.shape
          have hkr : k < rows[q].length := by rw [hlen]; exact hlt
          obtain ⟨ad3, rfl, hc3⟩ := hru.at k hkr
          go_wp2
          refine Rely.regionB _ _ (by kernel_rfl) [0,1,2,3,4,5,6,7,8,9] [10] [11,12,13] (fun _ v w => ∃ nb, v = .slice (some ⟨nb, 0, none⟩) 1 1 ∧ w.heap[nb]? = some (.cells #[I rows[q][k]] 3 (0, 0))) (fun _ => True) (by kernel_rfl) (fun _ _ => trivial) ?_
          have htop := ht1.out.top k hlt
          have hown := Lib.hid (ht1.out.own k hlt)
          simp only [Nat.lt_irrefl, if_true, if_false] at hown
          have hB1 := hb1.out.size
          (refine Rely.Fx.run ?rlc1 rfl rfl (fun _ _ => ?rlh1) ?rlk1; (case rlh1 => (go_simp; try rfl)); go_simp)
          (refine Rely.Fx.run ?rlc2 rfl rfl (fun _ _ => ?rlh2) ?rlk2; (case rlh2 => (go_simp; try rfl)); go_simp)
          (refine Rely.Fx.run ?rlc3 rfl rfl (fun _ _ => ?rlh3) ?rlk3; (case rlh3 => (go_simp; try rfl)); go_simp)
          (refine Rely.Fx.run ?rlc4 rfl rfl (fun _ _ => ?rlh4) ?rlk4; (case rlh4 => (go_simp; try rfl)); go_simp)
          (refine Rely.Fx.run ?rlc5 rfl rfl (fun _ _ => ?rlh5) ?rlk5; (case rlh5 => (go_simp; try rfl)); go_simp)
          (refine Rely.Fx.load ?rlc6 rfl (by kernel_rfl) rfl (Rely.Stab.refl _ _ _) (fun _ hb => ?rlh6) ?rlk6; (case rlh6 => (have hrl := (hb.cell (cell_old htop)).trans htop; go_simp; try rfl)); go_simp)
          (refine Rely.Fx.run ?rlc7 rfl rfl (fun _ _ => ?rlh7) ?rlk7; (case rlh7 => (go_simp; try rfl)); go_simp)
          (refine Rely.Fx.run ?rlc8 rfl rfl (fun _ _ => ?rlh8) ?rlk8; (case rlh8 => (go_simp; try rfl)); go_simp)
          (refine Rely.Fx.run ?rlc9 rfl rfl (fun _ _ => ?rlh9) ?rlk9; (case rlh9 => (go_simp; try rfl)); go_simp)
          (refine Rely.Fx.load ?rlc10 rfl (by kernel_rfl) rfl (Rely.Stab.refl _ _ _) (fun _ hb => ?rlh10) ?rlk10; (case rlh10 => (have hrl := (hb.cell (cell_old hc3)).trans hc3; go_simp; try rfl)); go_simp)
          refine Rely.Fx.done ?_
          (refine Rely.Lt.step (o := ?rlo11) 36 ?rlho11 ?rlhd11 (by simp) ?rlh11 ?rlk11; (case rlho11 => (simp only [List.getElem?_toArray, List.getElem?_cons_succ, List.getElem?_cons_zero]; rfl)); (case rlhd11 => rfl))
          · intro w' hb hp
            go_wp2
            exact ⟨_, rfl, ⟨_, rfl, heap_alloc_new _ _⟩, hb.alloc hb.size _, Rely.Stab.one _ _ _ _⟩
          · intro v
            refine Rely.Lt.done ?_
            intro w' hb hp
            obtain ⟨nb, rfl, hnb⟩ := hp.one
            have hbox : Ints w' (.slice (some ⟨nb, 0, none⟩) 1 1) [rows[q][k]] := Ints.ofBlock hnb
            have HBX := Lib.hid hbox
            have HT2 := Lib.hid (ht1.out.below hb)
            have HB2 := Lib.hid (hb1.out.trans (hb.mono hb1.out.size))
            have HO2 := Lib.hid (hown.out.below hb)
            have hB2 := HB2.out.size
            have B9 : Hid (((colUpTo rows k q).length + [rows[q][k]].length) * 8 ≤ 140737488355328) := Lib.hid (by have := H1.out; simp [colUpTo]; omega)
            clear hp hnb hbox
            (refine Rely.Tl.step (o := ?rlo12) ?rlho12 ?rlk12; (case rlho12 => (simp only [List.getElem?_toArray, List.getElem?_cons_succ, List.getElem?_cons_zero]; rfl)))
            go_wp2_with (at_builtin; refine app_ints w.heap.size rfl _ _ 23 3 rfl Tryz.underlying23 info_int _ _ (by rfl) _ _ (by rfl) HBX.out HO2.out HB2.out hB2 B9.out ?_; intro v1 w3 ho3 hb3 hkeep3 hsz3 hat3)
            refine ⟨rfl, ?_⟩
            have HH3 := Lib.hid hb3
            have HT3 := Lib.hid (HT2.out.step k hlt v1 _ ho3 hkeep3 hsz3 hat3)
            have hcell3 : w3.cell? ⟨w.heap.size, k, none⟩ = some (vs1 k) := (World.cell?_of_block (w := w') (hkeep3 _ HT2.out.lt.2 (HT2.out.ne k hlt))).trans (HT2.out.top k hlt)
            have hfro3 : w3.frozen? ⟨w.heap.size, k, none⟩ = false := (World.frozen?_of_block (w := w') (hkeep3 _ HT2.out.lt.2 (HT2.out.ne k hlt))).trans (HT2.out.ftop k hlt)
            have N := Lib.hid (colUpTo_succ hlq hkr)
            obtain ⟨A9, c9, e9⟩ := ho3.shape
            generalize (colUpTo rows k q ++ [rows[q][k]]).length = n9 at e9
            subst e9
            clear hkeep3 hat3
            (refine Rely.Tl.step (o := ?rlo13) ?rlho13 ?rlk13; (case rlho13 => (simp only [List.getElem?_toArray, List.getElem?_cons_succ, List.getElem?_cons_zero]; rfl)))
            go_wp2
            refine ⟨rfl, ?_⟩
            (refine Rely.Tl.last (o := ?rlo14) ?rlho14 ?rlk14; (case rlho14 => (simp only [List.getElem?_toArray, List.getElem?_cons_succ, List.getElem?_cons_zero]; rfl)))
            go_wp2
            refine ⟨rfl, ?_⟩
            go_wp2
            go_roundw
            case rel =>
              refine ⟨q + 1, _, by omega, by go_num, Lib.hid (TabO.congr HT3.out fun i hi => ?_), Lib.hid (hb3.setCell (Nat.le_refl _) _)⟩
              by_cases e : i = k
              · subst e; rw [upd_same, if_neg (Nat.lt_irrefl _), if_pos rfl, N.out]
              · rw [upd_ne _ _ e]; simp [e]
            case measure => simp [intOf]; omega
        · have E : Hid (colUpTo rows k q = colUpTo rows k rows.length) := Lib.hid (by unfold colUpTo; rw [List.take_of_length_le (by omega), List.take_of_length_le (Nat.le_refl _)])
          have htop := ht1.out.top k hlt
          have HO1 := Lib.hid (ht1.out.own k hlt)
          simp only [Nat.lt_irrefl, if_true, if_false] at HO1
          have hB1 := hb1.out.size
          have hBW : Below wr.heap.size wr (wr.alloc (.cells #[I more[k]] 3)) := (Below.refl _ _).alloc (Nat.le_refl _) _
          have HBX := Lib.hid (Ints.new wr [more[k]] _ 1 3 #[I more[k]] rfl rfl rfl (by simp))
          have HT2 := Lib.hid (ht1.out.below hBW)
          have HB2 := Lib.hid (hb1.out.trans (hBW.mono hb1.out.size))
          have HO2 := Lib.hid (HO1.out.below hBW)
          have HLE := Lib.hid HB2.out.size
          have B9 : Hid (((colUpTo rows k q).length + [more[k]].length) * 8 ≤ 140737488355328) := Lib.hid (by have := H1.out; simp [colUpTo]; omega)
          clear hBW
          go_wp2_with (at_builtin; refine app_ints w.heap.size rfl _ _ 23 3 rfl Tryz.underlying23 info_int _ _ (by rfl) _ _ (by rfl) HBX.out HO2.out HB2.out HLE.out B9.out ?_; intro v1 w3 ho3 hb3 hkeep3 hsz3 hat3; have HH3 := Lib.hid hb3; have HT3 := Lib.hid (HT2.out.step k hlt v1 _ ho3 hkeep3 hsz3 hat3); have hcell3 : w3.cell? ⟨w.heap.size, k, none⟩ = some (vs1 k) := (World.cell?_of_block (w := wr.alloc (.cells #[I more[k]] 3)) (hkeep3 _ HT2.out.lt.2 (HT2.out.ne k hlt))).trans (HT2.out.top k hlt); have hfro3 : w3.frozen? ⟨w.heap.size, k, none⟩ = false := (World.frozen?_of_block (w := wr.alloc (.cells #[I more[k]] 3)) (hkeep3 _ HT2.out.lt.2 (HT2.out.ne k hlt))).trans (HT2.out.ftop k hlt); obtain ⟨A9, c9, e9⟩ := ho3.shape; generalize (colUpTo rows k q ++ [more[k]]).length = n9 at e9; subst e9; clear hkeep3 hat3 hb3 ho3 hsz3)
          · go_roundw
            case rel =>
              refine ⟨k + 1, _, by omega, by go_num, Lib.hid (TabO.congr HT3.out fun i hi => ?_), Lib.hid (HH3.out.setCell (Nat.le_refl _) _)⟩
              by_cases e : i = k
              · subst e; rw [upd_same, if_pos (by omega), E.out]; simp [hi]
              · rw [upd_ne _ _ e]
                by_cases e2 : i < k
                · rw [if_pos e2, if_pos (by omega)]
                · rw [if_neg e2, if_neg e, if_neg (by omega)]
            case measure => simp [intOf]; omega
    · go_wp2
      go_ret
      refine ⟨_, vs, rfl, ht.out.congr fun i hi => ?_, hb.out⟩
      rw [if_pos (by omega)]

end Go.Proofs.YtgacdmkhgllceaaGreatDoor

namespace Go.Proofs.YtgacdmkhgllceaaGreatDoor
open Go.RowKit Go.Shelf

theorem need_any (e : Value) (w : World) : Calls Tryz.prog 199 #[.bool true, e] w fun e w' => (∃ v, e = .returned v) ∧ w = w' := by
  go_enter Tryz.func199, Tryz.ntmps199
  go_wp2
  go_end0
  exact ⟨⟨_, rfl⟩, rfl⟩

theorem linCheck1_pred : PredOf 218 #[] oddQ := by
  refine ⟨enters_of Tryz.func218 (by kernel_rfl) rfl, fun x w => ?_⟩
  by_cases h : x < 0
  · have g : decide (x < 0) = true := decide_eq_true h
    have E : Hid (oddQ x = true) := Lib.hid (by unfold oddQ; rw [g]; rfl)
    clear h
    go_enter Tryz.func218, Tryz.ntmps218
    go_wp2
    go_ret
    exact ⟨ret_bool E.out.symm, rfl⟩
  · have g : decide (x < 0) = false := decide_eq_false h
    have E : Hid (oddQ x = decide (1073741789 ≤ x)) := Lib.hid (by unfold oddQ; rw [g]; rfl)
    clear h
    go_enter Tryz.func218, Tryz.ntmps218
    go_wp2
    go_ret
    exact ⟨ret_bool E.out.symm, rfl⟩

/-- Rows of one length, of numbers of the field. -/
def RightR (rows : List (List Int)) (m : Nat) : Prop := ∀ q, (h : q < rows.length) → rows[q].length = m ∧ rows[q].any oddQ = false

set_option maxHeartbeats 1000000 in
theorem check_any (v : Value) (rows : List (List Int)) (m : Nat) (w : World) (hv : Rows2 w v rows) (hr : RightR rows m) (hm : m ≤ 64) :
    Calls Tryz.prog 200 #[v] w fun e w' => (∃ v, e = .returned v) ∧ w = w' := by
  obtain ⟨A, c, rfl, hma⟩ := hv.shape
  have HV := Lib.hid hv
  have HR := Lib.hid hr
  have HM := Lib.hid hm
  clear hv hr
  go_enter Tryz.func200, Tryz.ntmps200
  go_wp2
  go_loop [9] (fun j => ∃ k : Nat, k ≤ rows.length ∧ j = I k) (fun j => rows.length - (intOf j).toNat)
  case atStart => exact ⟨0, Nat.zero_le _, rfl⟩
  case round =>
    obtain ⟨k, hk, rfl⟩ := hrel
    by_cases hlt : k < rows.length
    · obtain ⟨ad, u, rfl, hc, hu⟩ := HV.out.at k hlt
      obtain ⟨A1, c1, rfl, hm1⟩ := hu.shape
      have hl : decide ((rows[k].length : Int) ≤ 64) = true := decide_eq_true (by have := (HR.out k hlt).1; have := HM.out; omega)
      have hl2 : decide (rows[k].length ≤ 64) = true := decide_eq_true (by have := (HR.out k hlt).1; have := HM.out; omega)
      clear hu
      go_wp2_with fail
      refine (need_any _ _).mono ?_
      rintro e w' ⟨⟨v, rfl⟩, rfl⟩
      go_wp2
      go_round
      case rel => exact ⟨k + 1, by omega, by go_num⟩
      case measure => simp [intOf]; omega
    · go_wp2
      go_loop [20] (fun j => ∃ k : Nat, k ≤ rows.length ∧ j = I k) (fun j => rows.length - (intOf j).toNat)
      case atStart => exact ⟨0, Nat.zero_le _, rfl⟩
      case round =>
        obtain ⟨q, hq, rfl⟩ := hrel
        by_cases hlt2 : q < rows.length
        · obtain ⟨ad, u, rfl, hc, hu⟩ := HV.out.at q hlt2
          obtain ⟨ad', u0, e0, hc0, hu0⟩ := HV.out.at 0 (by omega)
          injection e0 with e0
          subst e0
          rw [show ad.add 0 = ad by unfold Addr.add; rfl] at hc0
          obtain ⟨A1, c1, rfl, hm1⟩ := hu.shape
          obtain ⟨A0, c0, rfl, hm0⟩ := hu0.shape
          have e1 := (HR.out q hlt2).1
          have e2 := (HR.out 0 (by omega)).1
          have hl : ((rows[q].length : Int) == (rows[0].length : Int)) = true := beq_iff_eq.2 (by omega)
          have hl2 : (rows[q].length == rows[0].length) = true := beq_iff_eq.2 (by omega)
          have HU := Lib.hid hu
          have HO := Lib.hid (HR.out q hlt2).2
          clear hu hu0 e1 e2
          go_wp2_with fail
          refine (containsInt_any _ _ _ linCheck1_pred _ rows[q] _ HU.out).mono ?_
          rintro e w' ⟨rfl, rfl⟩
          rw [HO.out]
          go_wp2_with fail
          refine (need_any _ _).mono ?_
          rintro e w' ⟨⟨v, rfl⟩, rfl⟩
          go_wp2
          go_round
          case rel => exact ⟨q + 1, by omega, by go_num⟩
          case measure => simp [intOf]; omega
        · go_wp2
          go_end0
          exact ⟨⟨_, rfl⟩, rfl⟩

/-- One list laid by itself. -/
theorem Rows2.new1 (w : World) (u : Value) (xs : List Int) (b : Nat) (t : TypeId) (hb : b = w.heap.size) (hu : Ints w u xs) : Rows2 (w.alloc (.cells #[u] t)) (.slice (some ⟨b, 0, none⟩) 1 1) [xs] := by
  subst hb
  refine ⟨_, _, rfl, ⟨Nat.le_refl _, fun h => by cases h⟩, by simp, fun i hi => ⟨_, rfl, ?_⟩⟩
  have : (⟨w.heap.size, 0, none⟩ : Addr).add (i * 1) = ⟨w.heap.size, i, none⟩ := by unfold Addr.add; split <;> simp_all
  rw [this]
  have hi2 : i = 0 := by simp at hi; omega
  subst hi2
  exact ⟨u, by simp, hu.alloc _⟩

set_option maxHeartbeats 1000000 in
theorem examine_any (vr vt : Value) (rows : List (List Int)) (t : List Int) (w : World) (hv : Rows2 w vr rows) (ht : Ints w vt t) (hr : RightR rows t.length) (h1 : t.any oddQ = false) (hm : t.length ≤ 64) (hn : rows.length ≤ 64) :
    Calls Tryz.prog 178 #[vr, vt] w fun e w' => (∃ v, e = .returned v) ∧ Below w.heap.size w w' := by
  obtain ⟨A, c, rfl, hma⟩ := hv.shape
  obtain ⟨B, cb, rfl, hmb⟩ := ht.shape
  have HV := Lib.hid hv
  have HT := Lib.hid ht
  have HR := Lib.hid hr
  have HM := Lib.hid hm
  have H1 := Lib.hid h1
  have hl : decide ((rows.length : Int) ≤ 64) = true := decide_eq_true (by omega)
  have hl2 : decide (rows.length ≤ 64) = true := decide_eq_true (by omega)
  clear hv hr ht h1
  go_enter Tryz.func178, Tryz.ntmps178
  go_wp2_with fail
  refine (need_any _ _).mono ?_
  rintro e w' ⟨⟨v, rfl⟩, rfl⟩
  go_wp2_with fail
  refine (check_any _ rows t.length _ HV.out HR.out HM.out).mono ?_
  rintro e w' ⟨⟨v, rfl⟩, rfl⟩
  have HV2 := Lib.hid (HV.out.alloc (.cells #[.slice B t.length cb] 23))
  have HB := Lib.hid ((Below.refl w.heap.size w).alloc (Nat.le_refl _) (.cells #[.slice B t.length cb] 23))
  go_wp2_with fail
  refine (check_any _ [t] t.length _ (Rows2.new1 _ _ t _ 23 rfl HT.out) (fun q h => by simp at h; subst h; exact ⟨rfl, H1.out⟩) HM.out).mono ?_
  rintro e w' ⟨⟨v, rfl⟩, rfl⟩
  by_cases h0 : rows.length = 0
  · have g : ((rows.length : Int) == 0) = true := beq_iff_eq.2 (by omega)
    clear h0
    go_wp2_with fail
    refine (need_any _ _).mono ?_
    rintro e w' ⟨⟨v, rfl⟩, rfl⟩
    go_wp2
    go_end0
    exact ⟨⟨_, rfl⟩, HB.out⟩
  · have g : ((rows.length : Int) == 0) = false := beq_eq_false_iff_ne.2 (by omega)
    have hp : 0 < rows.length := by omega
    obtain ⟨ad, u, rfl, hc, hu⟩ := HV2.out.at 0 hp
    rw [show ad.add 0 = ad by unfold Addr.add; rfl] at hc
    obtain ⟨A1, c1, rfl, hm1⟩ := hu.shape
    have e1 := (HR.out 0 hp).1
    have hl : ((rows[0].length : Int) == (t.length : Int)) = true := beq_iff_eq.2 (by omega)
    have hl2 : (rows[0].length == t.length) = true := beq_iff_eq.2 e1
    clear hu e1 h0
    go_wp2_with fail
    refine (need_any _ _).mono ?_
    rintro e w' ⟨⟨v, rfl⟩, rfl⟩
    go_wp2
    go_end0
    exact ⟨⟨_, rfl⟩, HB.out⟩

/-- The elements of a row from a column on, with their places. -/
def encPr (x : Nat × Int) : Array Value := #[I x.1, I x.2]
def afterL (row : Nat → Int) (m : Nat) (c : Nat) : List (Nat × Int) := (List.range' c (m - c)).map fun k => (k, row k)

theorem after_any (v : Value) (c : Int) (w : World) (A : Option Addr) (n cp : Nat) (hv : v = .slice A n cp) :
    Calls Tryz.prog 202 #[v, I c] w fun e w' => e = .returned (.func (.func 219) #[] #[.pointer (some ⟨w.heap.size + 1, 0, none⟩), .pointer (some ⟨w.heap.size, 0, none⟩)]) ∧
      w' = (w.alloc (.cells #[v] 23)).alloc (.cells #[I c] 3) := by
  subst hv
  go_enter Tryz.func202, Tryz.ntmps202
  go_wp2
  go_ret
  exact ⟨rfl, rfl⟩

theorem afterL_step (row : Nat → Int) (m c j : Nat) (hc : c ≤ j) (hj : j < m) : (afterL row m c).take (j + 1 - c) = (afterL row m c).take (j - c) ++ [(j, row j)] := by
  rw [show j + 1 - c = (j - c) + 1 by omega, List.take_succ_eq_append_getElem (by simp [afterL]; omega)]
  simp [afterL]
  have : c + (j - c) = j := by omega
  rw [this]
  exact ⟨rfl, rfl⟩
theorem afterL_len (row : Nat → Int) (m c : Nat) : (afterL row m c).length = m - c := by simp [afterL]

set_option maxHeartbeats 1000000 in
theorem after1_iter (bc br : Nat) (ad m cp c : Nat) (row : Nat → Int) (w0 : World) (hc : w0.cell? ⟨bc, 0, none⟩ = some (I c)) (hr : w0.cell? ⟨br, 0, none⟩ = some (.slice (some ⟨ad, 0, none⟩) m cp)) (hm : m ≤ 1000) (hcm : c ≤ m) :
    Iter Tryz.prog 219 #[.pointer (some ⟨bc, 0, none⟩), .pointer (some ⟨br, 0, none⟩)] encPr (fun k => k = bc ∨ k = br) (fun _ => False) (fun pre A => ∀ k, c + pre.length ≤ k → k < m → A.cell? ⟨ad, k, none⟩ = some (I (row k))) (afterL row m c) w0 := by
  intro n l J Jx W hW hN hJ hJx hY h0
  refine callsIn_of_wp Tryz.func219 rfl trivial ?_ rfl
  simp only [Tryz.ntmps219, List.size_toArray, List.length_cons, List.length_nil, Nat.reduceAdd, Nat.reduceSub, Array.replicate_succ, Array.replicate_zero, List.push_toArray, List.append_toArray, List.nil_append, List.cons_append]
  have cc := hW.cell (a := ⟨bc, 0, none⟩) trivial hc
  have cr := hW.cell (a := ⟨br, 0, none⟩) trivial hr
  clear hc hr hW
  gi_wp2
  gi_loopw [4] (fun v wr => ∃ j : Nat, v = I j ∧ c ≤ j ∧ j ≤ m ∧ Hid (J ((afterL row m c).take (j - c)) wr) ∧ wr.cell? ⟨bc, 0, none⟩ = some (I c) ∧ wr.cell? ⟨br, 0, none⟩ = some (.slice (some ⟨ad, 0, none⟩) m cp)) (fun v _ => m - (intOf v).toNat)
  case atStart => exact ⟨c, rfl, Nat.le_refl _, hcm, Lib.hid (by rw [Nat.sub_self]; exact h0), cc, cr⟩
  case round =>
    obtain ⟨j, rfl, hj1, hj2, hj, cc, cr⟩ := hrel
    by_cases hlt : j < m
    · have hel := hN _ _ hj.out j (by rw [List.length_take, afterL_len]; omega) hlt
      have N := Lib.hid (afterL_step row m c j hj1 hlt)
      obtain ⟨fn, tmps, assign, body, hy, hR⟩ := hY ((afterL row m c).take (j - c)) (j, row j) wr hj.out (by rw [← N.out]; exact List.take_prefix _ _)
      dsimp only [encPr] at hy
      gi_wp2
      refine ⟨fun h => by simp [Fence.wide] at h, hR.mono ?_⟩
      rintro e W' (⟨rfl, hJ', hS⟩ | ⟨rfl, hJx'⟩)
      · have cc' := hS.cell (a := ⟨bc, 0, none⟩) (.inl rfl) cc
        have cr' := hS.cell (a := ⟨br, 0, none⟩) (.inr rfl) cr
        have HJ := Lib.hid hJ'
        clear hS hJ' hy cc cr hel
        gi_wp2
        go_roundw
        case rel => exact ⟨j + 1, by go_num, by omega, by omega, Lib.hid (by rw [N.out]; exact HJ.out), cc', cr'⟩
        case measure => simp [intOf]; omega
      · gi_wp2
        refine bodyPost_ret (results_none rfl _ _ _) rfl ?_
        exact ⟨⟨_, rfl⟩, .inr hJx'⟩
    · have E : Hid ((afterL row m c).take (j - c) = afterL row m c) := Lib.hid (by rw [List.take_of_length_le (by rw [afterL_len]; omega)])
      gi_wp2
      go_end0
      exact ⟨⟨_, rfl⟩, .inl (by have h := hj.out; rw [E.out] at h; exact h)⟩

end Go.Proofs.YtgacdmkhgllceaaGreatDoor

namespace Go.Proofs.YtgacdmkhgllceaaGreatDoor
open Go.RowKit Go.Shelf
attribute [local go_sem] Oper.semAt_some

theorem Same.trans2 {K K' : Nat → Prop} {A B C : World} (h : Same K A B) (k : Same K' B C) (hk : ∀ j, j < A.heap.size → K j → K' j) : Same K A C :=
  ⟨k.os.trans h.os, k.tape.trans h.tape, k.output.trans h.output, Nat.le_trans h.size k.size, fun i hi hK => (k.block i (Nat.lt_of_lt_of_le hi h.size) (hk i hi hK)).trans (h.block i hi hK)⟩

/-- A table of n rows of m numbers each. -/
structure Tab (base : Nat) (W : World) (b n m : Nat) (ad cp : Nat → Nat) (f : Nat → Nat → Int) : Prop where
  lt : base ≤ b ∧ b < W.heap.size
  alt : ∀ i, i < n → base ≤ ad i ∧ ad i < W.heap.size
  top : ∀ i, i < n → W.cell? ⟨b, i, none⟩ = some (.slice (some ⟨ad i, 0, none⟩) m (cp i))
  ftop : ∀ i, i < n → W.frozen? ⟨b, i, none⟩ = false
  row : ∀ i k, i < n → k < m → W.cell? ⟨ad i, k, none⟩ = some (I (f i k))
  frow : ∀ i k, i < n → k < m → W.frozen? ⟨ad i, k, none⟩ = false
  ne : ∀ i, i < n → ad i ≠ b
  inj : ∀ i j, i < n → j < n → ad i = ad j → i = j

theorem Tab.same {base : Nat} {A B : World} {b n m : Nat} {ad cp : Nat → Nat} {f : Nat → Nat → Int} (h : Tab base A b n m ad cp f) {K : Nat → Prop} (hs : Same K A B) (hb : K b) (ha : ∀ i, i < n → K (ad i)) : Tab base B b n m ad cp f :=
  ⟨⟨h.lt.1, Nat.lt_of_lt_of_le h.lt.2 hs.size⟩, fun i hi => ⟨(h.alt i hi).1, Nat.lt_of_lt_of_le (h.alt i hi).2 hs.size⟩, fun i hi => hs.cell hb (h.top i hi), fun i hi => (hs.frozen hb h.lt.2).trans (h.ftop i hi),
    fun i k hi hk => hs.cell (ha i hi) (h.row i k hi hk), fun i k hi hk => (hs.frozen (ha i hi) (h.alt i hi).2).trans (h.frow i k hi hk), h.ne, h.inj⟩
theorem Tab.below {base : Nat} {A B : World} {b n m : Nat} {ad cp : Nat → Nat} {f : Nat → Nat → Int} (h : Tab base A b n m ad cp f) (hb : Below A.heap.size A B) : Tab base B b n m ad cp f :=
  h.same (Same.of_below hb (fun _ h _ => h) (K := fun _ => True)) trivial fun _ _ => trivial
theorem Tab.congr {base : Nat} {W : World} {b n m : Nat} {ad cp : Nat → Nat} {f g : Nat → Nat → Int} (h : Tab base W b n m ad cp f) (e : ∀ i k, i < n → k < m → f i k = g i k) : Tab base W b n m ad cp g :=
  ⟨h.lt, h.alt, h.top, h.ftop, fun i k hi hk => by rw [← e i k hi hk]; exact h.row i k hi hk, h.frow, h.ne, h.inj⟩

def upd2 (f : Nat → Nat → Int) (i k : Nat) (x : Int) : Nat → Nat → Int := fun i' k' => if i' = i ∧ k' = k then x else f i' k'

theorem Tab.set {base : Nat} {W : World} {b n m : Nat} {ad cp : Nat → Nat} {f : Nat → Nat → Int} (h : Tab base W b n m ad cp f) (i k : Nat) (hi : i < n) (hk : k < m) (x : Int) : Tab base (W.setCell ⟨ad i, k, none⟩ (I x)) b n m ad cp (upd2 f i k x) := by
  refine ⟨⟨h.lt.1, by have := h.lt.2; simp [World.setCell]; omega⟩, fun j hj => ⟨(h.alt j hj).1, by have := (h.alt j hj).2; simp [World.setCell]; omega⟩, fun j hj => set_far (h.ne i hi) (h.top j hj), fun j hj => set_frozen (h.ftop j hj), fun j q hj hq => ?_, fun j q hj hq => set_frozen (h.frow j q hj hq), h.ne, h.inj⟩
  unfold upd2
  by_cases e : j = i ∧ q = k
  · rw [if_pos e, e.1, e.2]
    exact set_same (h.row i k hi hk)
  · rw [if_neg e]
    have hne : (⟨ad i, k, none⟩ : Addr) ≠ ⟨ad j, q, none⟩ := fun q2 => by
      injection q2 with q3 q4
      exact e ⟨(h.inj i j hi hj q3).symm, q4.symm⟩
    exact (World.cell?_setCell_other (h := hne) ..).trans (h.row j q hj hq)

/-- One row less a multiple of another one, from a column on, for the first q columns. -/
def clrP (f : Nat → Nat → Int) (i r c q : Nat) : Nat → Nat → Int := fun i' k => if i' = i ∧ c ≤ k ∧ k < c + q then add (f i k) (-(mul (f i c) (f r k))) else f i' k

theorem clrP_zero (f : Nat → Nat → Int) (i r c : Nat) : clrP f i r c 0 = f := by
  funext i' k; unfold clrP; rw [if_neg (by omega)]
theorem clrP_succ (f : Nat → Nat → Int) (i r c q : Nat) : upd2 (clrP f i r c q) i (c + q) (add (f i (c + q)) (-(mul (f i c) (f r (c + q))))) = clrP f i r c (q + 1) := by
  funext i' k; unfold upd2
  by_cases e : i' = i ∧ k = c + q
  · obtain ⟨rfl, rfl⟩ := e
    rw [if_pos ⟨rfl, rfl⟩]; unfold clrP; rw [if_pos ⟨rfl, by omega, by omega⟩]
  · rw [if_neg e]; unfold clrP
    by_cases e2 : i' = i ∧ c ≤ k ∧ k < c + q
    · rw [if_pos e2, if_pos ⟨e2.1, e2.2.1, by omega⟩]
    · rw [if_neg e2, if_neg (fun h => e2 ⟨h.1, h.2.1, by
        have : ¬ k = c + q := fun q => e ⟨h.1, q⟩
        omega⟩)]

theorem cell_three (w : World) (a b c : Value) (t1 t2 t3 : TypeId) :
    let W := ((w.alloc (.cells #[a] t1)).alloc (.cells #[b] t2)).alloc (.cells #[c] t3)
    W.cell? ⟨w.heap.size, 0, none⟩ = some a ∧ W.cell? ⟨w.heap.size + 1, 0, none⟩ = some b ∧ W.cell? ⟨w.heap.size + 2, 0, none⟩ = some c := by
  intro W
  exact ⟨(old_cell (.cells #[c] t3) (old_cell (.cells #[b] t2) (new_cell w a t1 _ rfl))).1, (old_cell (.cells #[c] t3) (new_cell (w.alloc (.cells #[a] t1)) b t2 (w.heap.size + 1) (by simp))).1, (new_cell ((w.alloc (.cells #[a] t1)).alloc (.cells #[b] t2)) c t3 (w.heap.size + 2) (by simp)).1⟩

theorem cell_five (w : World) (a b c d e : Value) (t1 t2 t3 t4 t5 : TypeId) :
    let W := ((((w.alloc (.cells #[a] t1)).alloc (.cells #[b] t2)).alloc (.cells #[c] t3)).alloc (.cells #[d] t4)).alloc (.cells #[e] t5)
    W.cell? ⟨w.heap.size, 0, none⟩ = some a ∧ W.cell? ⟨w.heap.size + 1, 0, none⟩ = some b ∧ W.cell? ⟨w.heap.size + 2, 0, none⟩ = some c ∧ W.cell? ⟨w.heap.size + 3, 0, none⟩ = some d ∧ W.cell? ⟨w.heap.size + 4, 0, none⟩ = some e := by
  intro W
  obtain ⟨h1, h2, h3⟩ := cell_three w a b c t1 t2 t3
  obtain ⟨h4, h5⟩ : (((((w.alloc (.cells #[a] t1)).alloc (.cells #[b] t2)).alloc (.cells #[c] t3)).alloc (.cells #[d] t4)).alloc (.cells #[e] t5)).cell? ⟨w.heap.size + 3, 0, none⟩ = some d ∧ (((((w.alloc (.cells #[a] t1)).alloc (.cells #[b] t2)).alloc (.cells #[c] t3)).alloc (.cells #[d] t4)).alloc (.cells #[e] t5)).cell? ⟨w.heap.size + 4, 0, none⟩ = some e :=
    ⟨(old_cell (.cells #[e] t5) (new_cell (((w.alloc (.cells #[a] t1)).alloc (.cells #[b] t2)).alloc (.cells #[c] t3)) d t4 (w.heap.size + 3) (by simp))).1, (new_cell ((((w.alloc (.cells #[a] t1)).alloc (.cells #[b] t2)).alloc (.cells #[c] t3)).alloc (.cells #[d] t4)) e t5 (w.heap.size + 4) (by simp)).1⟩
  exact ⟨keepA (.cells #[e] t5) (keepA (.cells #[d] t4) h1), keepA (.cells #[e] t5) (keepA (.cells #[d] t4) h2), keepA (.cells #[e] t5) (keepA (.cells #[d] t4) h3), h4, h5⟩

theorem prefix_el {row : Nat → Int} {m c : Nat} {pre : List (Nat × Int)} {x : Nat × Int} (h : pre ++ [x] <+: afterL row m c) : x = (c + pre.length, row (c + pre.length)) ∧ c + pre.length < m := by
  obtain ⟨t, ht⟩ := h
  have hl : pre.length < (afterL row m c).length := by rw [← ht]; simp
  have e : (afterL row m c)[pre.length]? = some x := by rw [← ht]; simp
  rw [List.getElem?_eq_getElem hl] at e
  have hl2 := hl
  rw [afterL_len] at hl2
  refine ⟨?_, by omega⟩
  have := Option.some.inj e
  rw [← this]
  simp [afterL]

set_option maxRecDepth 100000 in
set_option maxHeartbeats 2000000 in
theorem clear_any (b n m ct : Nat) (ad cp : Nat → Nat) (f : Nat → Nat → Int) (i r c base : Nat) (w : World) (ht : Tab base w b n m ad cp f) (hi : i < n) (hr : r < n) (hir : i ≠ r) (hc : c < m) (_hn : n ≤ 1000) (hm : m ≤ 1000) :
    Calls Tryz.prog 203 #[.slice (some ⟨b, 0, none⟩) n ct, I i, I r, I c] w fun e w' => (∃ v, e = .returned v) ∧ Tab base w' b n m ad cp (if f i c = 0 then f else clrP f i r c (m - c)) ∧ Same (fun k => k ≠ ad i) w w' := by
  have HT := Lib.hid ht
  have c1 := ht.top i hi
  have c2 := ht.row i c hi hc
  have c3 := ht.top r hr
  have l1 := cell_old c1
  have l2 := cell_old c2
  dsimp only at l1 l2
  clear ht
  by_cases h0 : f i c = 0
  · have g : (f i c == 0) = true := beq_iff_eq.2 h0
    have E : Hid ((if f i c = 0 then f else clrP f i r c (m - c)) = f) := Lib.hid (if_pos h0)
    clear h0
    rw [E.out]
    go_enter Tryz.func203, Tryz.ntmps203
    go_wp2
    refine bodyPost_ret (results_none rfl _ _ _) rfl ?_
    have hb : Below w.heap.size w (((w.alloc (.cells #[.slice (some ⟨b, 0, none⟩) n ct] 203)).alloc (.cells #[I i] 3)).alloc (.cells #[I (f i c)] 3)) := (((Below.refl _ w).alloc (Nat.le_refl _) _).alloc (by simp) _).alloc (by simp; omega) _
    exact ⟨⟨_, rfl⟩, HT.out.below hb, Same.of_below hb fun _ h _ => h⟩
  · have g : (f i c == 0) = false := beq_eq_false_iff_ne.2 h0
    have E : Hid ((if f i c = 0 then f else clrP f i r c (m - c)) = clrP f i r c (m - c)) := Lib.hid (if_neg h0)
    clear h0
    rw [E.out]
    have hb3 : Below w.heap.size w (((w.alloc (.cells #[.slice (some ⟨b, 0, none⟩) n ct] 203)).alloc (.cells #[I i] 3)).alloc (.cells #[I (f i c)] 3)) := (((Below.refl _ w).alloc (Nat.le_refl _) _).alloc (by simp) _).alloc (by simp; omega) _
    have c3' := (hb3.cell (p := ⟨b, r, none⟩) l1).trans c3
    have HB3 := Lib.hid hb3
    clear hb3 c3
    refine (callsIn_wide (n := 5)).1 ?_
    refine callsIn_of_wp_marks Tryz.func203 rfl trivial ?_
    simp only [Tryz.ntmps203, List.size_toArray, List.length_cons, List.length_nil, Nat.reduceAdd, Nat.reduceSub, Array.replicate_succ, Array.replicate_zero, List.push_toArray, List.append_toArray, List.nil_append, List.cons_append]
    gi_wp2_with fail
    refine ⟨trivial, ?_⟩
    refine (callsIn_wide.2 (after_any _ _ _ _ _ _ rfl)).mono ?_
    rintro e w' ⟨rfl, rfl⟩
    gi_wp2
    obtain ⟨W0, hW0⟩ : ∃ W0, (((((w.alloc (.cells #[.slice (some ⟨b, 0, none⟩) n ct] 203)).alloc (.cells #[I i] 3)).alloc (.cells #[I (f i c)] 3)).alloc (.cells #[.slice (some ⟨ad r, 0, none⟩) m (cp r)] 23)).alloc (.cells #[I c] 3)) = W0 := ⟨_, rfl⟩
    have hsz : W0.heap.size = w.heap.size + 5 := by rw [← hW0]; simp
    have hbel : Below w.heap.size w W0 := by rw [← hW0]; exact ((HB3.out.alloc (by simp; omega) _).alloc (by simp; omega) _)
    have hcs := cell_five w (.slice (some ⟨b, 0, none⟩) n ct) (I i) (I (f i c)) (.slice (some ⟨ad r, 0, none⟩) m (cp r)) (I c) 203 3 3 23 3
    rw [hW0] at hcs ⊢
    obtain ⟨hb4, hb5, hb8, hbr, hbc⟩ := hcs
    have HT0 := Lib.hid (HT.out.below hbel)
    have hir2 := fun (e : ad r = ad i) => hir (HT.out.inj r i hr hi e).symm
    have hit : Iter Tryz.prog 219 #[.pointer (some ⟨w.heap.size + 4, 0, none⟩), .pointer (some ⟨w.heap.size + 3, 0, none⟩)] encPr (fun k => k = w.heap.size + 4 ∨ k = w.heap.size + 3) (fun _ => False) (fun pre A => ∀ k, c + pre.length ≤ k → k < m → A.cell? ⟨ad r, k, none⟩ = some (I (f r k))) (afterL (f r) m c) W0 :=
      after1_iter _ _ (ad r) m (cp r) c (f r) W0 hbc hbr hm (Nat.le_of_lt hc)
    clear hW0
    refine range_law rfl (enters_of Tryz.func219 (by kernel_rfl) rfl) hit (fun _ => rfl) (fun k => k = ad i) (fun k h1 h2 => by omega) (fun k h => h.elim) (fun k h => by omega) (fun k h => by omega)
      (fun pre W => pre.length ≤ m - c ∧ Tab base W b n m ad cp (clrP f i r c pre.length) ∧ Same (fun k => k ≠ ad i) W0 W) (fun _ _ => False) ?need ?keep (fun _ _ _ h _ => h) ?start ?a1 ?assign ?body ?done ?stop
    case assign =>
      intro l x W K hK
      dsimp only [encPr]
      gi_wp2
      exact hK
    case need =>
      rintro s A ⟨h1, h2, h3⟩ k hk1 hk2
      have := h2.row r k hr hk2
      unfold clrP at this
      rwa [if_neg (fun h => hir h.1.symm)] at this
    case keep =>
      rintro s A B ⟨h1, h2, h3⟩ hs
      have hk : ∀ k, k < W0.heap.size → k < A.heap.size := fun k h => Nat.lt_of_lt_of_le h h3.size
      refine ⟨h1, h2.same hs ⟨fun h => h, by omega, by omega⟩ (fun j hj => ⟨fun h => h, ?_, ?_⟩), h3.trans2 hs fun k hk _ => ⟨fun h => h, by omega, by omega⟩⟩
      · have := (HT.out.alt j hj).2; omega
      · have := (HT.out.alt j hj).2; omega
    case start => exact ⟨Nat.zero_le _, by rw [List.length_nil, clrP_zero]; exact HT0.out, Same.refl _ _⟩
    case body =>
      rintro l pre x W hz ⟨h1, h2, h3⟩ hpre
      obtain ⟨ex, hlt⟩ := prefix_el hpre
      subst ex
      have g4 := h3.cell (a := ⟨w.heap.size, 0, none⟩) (by dsimp only; omega) hb4
      have g5 := h3.cell (a := ⟨w.heap.size + 1, 0, none⟩) (by dsimp only; omega) hb5
      have g8 := h3.cell (a := ⟨w.heap.size + 2, 0, none⟩) (by dsimp only; omega) hb8
      have gt := h2.top i hi
      have gf := h2.row i (c + pre.length) hi hlt
      have gz := h2.frow i (c + pre.length) hi hlt
      have ef : clrP f i r c pre.length i (c + pre.length) = f i (c + pre.length) := by unfold clrP; rw [if_neg (by omega)]
      rw [ef] at gf
      have H1 := Lib.hid h1
      have H2 := Lib.hid h2
      have H3 := Lib.hid h3
      have HP := Lib.hid (clrP_succ f i r c pre.length)
      have hlen : (pre ++ [(c + pre.length, f r (c + pre.length))]).length = pre.length + 1 := by simp
      clear h1 h2 h3 hpre ef c1 c2 c3' hit
      generalize hkk : c + pre.length = kk at gf gz hlt HP hlen ⊢
      gi_wp2
      refine Rely.regionBIn _ _ _ _ (by kernel_rfl) [0,1,2,3,4,5,6,7,8,9,10,11,12,13,14,15,16] [] [17,18] (fun _ _ _ => True) (fun _ => True) (by kernel_rfl) (fun _ _ => trivial) ?_
      (refine Rely.Fx.loadIn ?rlc1 rfl (by kernel_rfl) rfl rfl rfl (Rely.Stab.refl _ _ _) (fun _ hb => ?rlh1) ?rlk1; (case rlh1 => (have hrl := (hb.cell (cell_old g4)).trans g4; go_simp; try rfl)); go_simp)
      (refine Rely.Fx.loadIn ?rlc2 rfl (by kernel_rfl) rfl rfl rfl (Rely.Stab.refl _ _ _) (fun _ hb => ?rlh2) ?rlk2; (case rlh2 => (have hrl := (hb.cell (cell_old g5)).trans g5; go_simp; try rfl)); go_simp)
      (refine Rely.Fx.runIn ?rlc3 rfl rfl rfl rfl (fun _ _ => ?rlh3) ?rlk3; (case rlh3 => (go_simp; try rfl)); go_simp)
      (refine Rely.Fx.loadIn ?rlc4 rfl (by kernel_rfl) rfl rfl rfl (Rely.Stab.refl _ _ _) (fun _ hb => ?rlh4) ?rlk4; (case rlh4 => (have hrl := (hb.cell (cell_old gt)).trans gt; go_simp; try rfl)); go_simp)
      (refine Rely.Fx.runIn ?rlc5 rfl rfl rfl rfl (fun _ _ => ?rlh5) ?rlk5; (case rlh5 => (go_simp; try rfl)); go_simp)
      (refine Rely.Fx.loadIn ?rlc6 rfl (by kernel_rfl) rfl rfl rfl (Rely.Stab.refl _ _ _) (fun _ hb => ?rlh6) ?rlk6; (case rlh6 => (have hrl := (hb.cell (cell_old g4)).trans g4; go_simp; try rfl)); go_simp)
      (refine Rely.Fx.loadIn ?rlc7 rfl (by kernel_rfl) rfl rfl rfl (Rely.Stab.refl _ _ _) (fun _ hb => ?rlh7) ?rlk7; (case rlh7 => (have hrl := (hb.cell (cell_old g5)).trans g5; go_simp; try rfl)); go_simp)
      (refine Rely.Fx.runIn ?rlc8 rfl rfl rfl rfl (fun _ _ => ?rlh8) ?rlk8; (case rlh8 => (go_simp; try rfl)); go_simp)
      (refine Rely.Fx.loadIn ?rlc9 rfl (by kernel_rfl) rfl rfl rfl (Rely.Stab.refl _ _ _) (fun _ hb => ?rlh9) ?rlk9; (case rlh9 => (have hrl := (hb.cell (cell_old gt)).trans gt; go_simp; try rfl)); go_simp)
      (refine Rely.Fx.runIn ?rlc10 rfl rfl rfl rfl (fun _ _ => ?rlh10) ?rlk10; (case rlh10 => (go_simp; try rfl)); go_simp)
      (refine Rely.Fx.runIn ?rlc11 rfl rfl rfl rfl (fun _ _ => ?rlh11) ?rlk11; (case rlh11 => (go_simp; try rfl)); go_simp)
      (refine Rely.Fx.loadIn ?rlc12 rfl (by kernel_rfl) rfl rfl rfl (Rely.Stab.refl _ _ _) (fun _ hb => ?rlh12) ?rlk12; (case rlh12 => (have hrl := (hb.cell (cell_old gf)).trans gf; go_simp; try rfl)); go_simp)
      (refine Rely.Fx.loadIn ?rlc13 rfl (by kernel_rfl) rfl rfl rfl (Rely.Stab.refl _ _ _) (fun _ hb => ?rlh13) ?rlk13; (case rlh13 => (have hrl := (hb.cell (cell_old g8)).trans g8; go_simp; try rfl)); go_simp)
      (refine Rely.Fx.runIn ?rlc14 rfl rfl rfl rfl (fun _ _ => ?rlh14) ?rlk14; (case rlh14 => (go_simp; try rfl)); go_simp)
      (refine Rely.Fx.callIn (o := ?rlo15) (I (mul (f i c) (f r kk))) 42 ?rlho15 ?rlhd15 (by simp) (by kernel_rfl) ?rlh15 ?rlk15; (case rlho15 => (simp only [List.getElem?_toArray, List.getElem?_cons_succ, List.getElem?_cons_zero]; rfl)); (case rlhd15 => rfl))
      · intro w' hb
        gi_wp2_with fail
        refine ⟨trivial, ?_⟩
        refine (CallsIn.inRound _ (callsIn_wide.2 (mul_any _ _ _))).mono ?_
        rintro e w'' ⟨rfl, rfl⟩
        gi_wp2
        exact ⟨_, rfl, rfl, hb, Rely.Stab.none _ _ _ _⟩
      go_simp
      (refine Rely.Fx.runIn ?rlc16 rfl rfl rfl rfl (fun _ _ => ?rlh16) ?rlk16; (case rlh16 => (go_simp; try rfl)); go_simp)
      (refine Rely.Fx.callIn (o := ?rlo17) (I (add (f i kk) (-(mul (f i c) (f r kk))))) 44 ?rlho17 ?rlhd17 (by simp) (by kernel_rfl) ?rlh17 ?rlk17; (case rlho17 => (simp only [List.getElem?_toArray, List.getElem?_cons_succ, List.getElem?_cons_zero]; rfl)); (case rlhd17 => rfl))
      · intro w' hb
        have hwr : wrap64 (-mul (f i c) (f r kk)) = -mul (f i c) (f r kk) := by
          have := md_bd (f i c * f r kk)
          unfold wrap64 mul; omega
        gi_wp2_with fail
        refine ⟨trivial, ?_⟩
        refine (CallsIn.inRound _ (callsIn_wide.2 (add_any _ _ _))).mono ?_
        rintro e w'' ⟨rfl, hb'⟩
        gi_wp2
        exact ⟨_, rfl, rfl, hb.trans (hb'.mono hb.size), Rely.Stab.none _ _ _ _⟩
      go_simp
      refine Rely.Fx.done ?_
      refine Rely.Lt.done ?_
      intro w' hb _
      have gf' := (hb.cell (cell_old gf)).trans gf
      have gz' := (hb.frozen (p := ⟨ad i, kk, none⟩) (cell_old gf)).trans gz
      have H2' := Lib.hid (H2.out.below hb)
      have H3' := Lib.hid (H3.out.trans (Same.of_below hb (fun _ h _ => h)))
      have HB' := Lib.hid hb
      clear hb
      (refine Rely.Tl.stepIn (o := ?rlo18) ?rlho18 ?rlk18; (case rlho18 => (simp only [List.getElem?_toArray, List.getElem?_cons_succ, List.getElem?_cons_zero]; rfl)))
      gi_wp2
      refine ⟨rfl, ?_⟩
      (refine Rely.Tl.lastIn (o := ?rlo19) ?rlho19 ?rlk19; (case rlho19 => (simp only [List.getElem?_toArray, List.getElem?_cons_succ, List.getElem?_cons_zero]; rfl)))
      gi_wp2
      refine ⟨rfl, ?_, ?_, ?_, ?_⟩
      · exact (Same.of_below HB'.out (fun _ h _ => h)).setCell (.inl (fun h => h rfl)) _
      · rw [hlen]; omega
      · have := H2'.out.set i kk hi (by omega) (add (f i kk) (-(mul (f i c) (f r kk))))
        rw [HP.out] at this
        rw [hlen]; exact this
      · exact H3'.out.setCell (.inl (fun h => h rfl)) _
    case done =>
      rintro W hz ⟨h1, h2, h3⟩ hD
      obtain ⟨pre0, hpre0⟩ : ∃ p, p = afterL (f r) m c := ⟨_, rfl⟩
      rw [← hpre0] at h1 h2
      have HT2 := Lib.hid h2
      have HS2 := Lib.hid (Same.trans2 (Same.of_below hbel (fun _ h _ => h) (K := fun k => k ≠ ad i)) h3 (fun _ _ h => h))
      gi_wp2
      refine ⟨by simp, .inl ⟨_, _, rfl, run_takeDeferred hD, ?_⟩⟩
      have e3 : pre0.length = m - c := by rw [hpre0]; exact afterL_len _ _ _
      have hp := (Same.refl (fun k => k ≠ W0.heap.size) W).putObj (l := W0.heap.size) (.inl (fun h => h rfl)) (.deferred none)
      refine ⟨.tuple #[], by simp [results, Tryz.results203, go_sem], ⟨_, rfl⟩, ?_, ?_⟩
      · have := HT2.out.same hp (by omega) (fun j hj => by have := (HT.out.alt j hj).2; omega)
        rwa [e3] at this
      · exact HS2.out.trans2 hp fun k hk _ => by omega
    case stop =>
      intro c W hz h
      exact h.elim

end Go.Proofs.YtgacdmkhgllceaaGreatDoor
