/- linear.Combine walked. -/
import Derived.Test.YtgacdmkhgllceaaGreatDoorZLin5
import Derived.Defers
import Derived.Recover
namespace Go.Proofs.YtgacdmkhgllceaaGreatDoor
open Go.RowKit Go.Shelf

theorem caught_idle (p : Addr) (w : World) :
    CallsD Tryz.prog 177 #[.pointer (some p)] .returning w fun e u' w' => e = .returned (.tuple #[]) ∧ u' = .returning ∧ w = w' := by
  refine callsD_of_wpS Tryz.func177 rfl fun c₀ cs hu => ?_
  apply wpS_seq
  apply wpS_region
  simp [wpOpsS, go_sem, recoverD, hu, Tryz.ntmps177, Exit.thenS]
  apply wpS_seq
  apply wpS_region
  simp [wpOpsS, go_sem, Exit.thenS]
  refine wpS_cond (t := false) (by simp [Act.eval, Array.replicate]) ?_
  simp only [Bool.false_eq_true, if_false]
  refine wpS_of_wp (wp_skip ?_)
  cases c₀
  simp_all [bodyPostS, results, Tryz.results177]

/-- The table of rows and a target, turned: column k of the rows, and what it has to come to. -/
def tabF (rows : List (List Int)) (t : List Int) (k j : Nat) : Int := if j < rows.length then (rows.getD j []).getD k 0 else t.getD k 0
/-- It, reduced. -/
def redF (rows : List (List Int)) (t : List Int) : (Nat → Nat → Int) × List Nat := redTo t.length (rows.length + 1) (tabF rows t) rows.length
/-- Is there an answer? -/
def solB (rows : List (List Int)) (t : List Int) : Bool := (List.range t.length).all fun k => decide (k < (redF rows t).2.length) || (redF rows t).1 k rows.length == 0
/-- The answer. -/
def solY (rows : List (List Int)) (t : List Int) (q : Nat) : List Int := (List.range rows.length).map fun j => yTo (redF rows t) rows.length q j

theorem tabF_col (rows : List (List Int)) (t : List Int) (k : Nat) : colUpTo rows k rows.length ++ [t.getD k 0] = (List.range (rows.length + 1)).map (tabF rows t k) := by
  apply List.ext_getElem
  · simp [colUpTo]
  · intro i h1 h2
    rw [List.getElem_map, List.getElem_range]
    unfold tabF
    by_cases e : i < rows.length
    · rw [if_pos e, List.getElem_append_left (by simp [colUpTo, e])]
      simp [colUpTo, e]
    · rw [if_neg e, List.getElem_append_right (by simp [colUpTo]; omega)]
      simp

def blkOf (v : Value) : Nat := match v with | .slice (some ad) _ _ => ad.block | _ => 0
def capOf (v : Value) : Nat := match v with | .slice _ _ c => c | _ => 0

/-- A table of rows that are owned is a table. -/
theorem TabO.tab {base : Nat} {W : World} {b n m : Nat} {vs : Nat → Value} {f : Nat → Nat → Int} (h : TabO base W b n vs (fun k => (List.range m).map (f k))) (hm : 0 < m) :
    Tab base W b n m (fun i => blkOf (vs i)) (fun i => capOf (vs i)) f := by
  have key : ∀ i, i < n → ∃ g cap cur, vs i = .slice (some ⟨g, 0, none⟩) m cap ∧ base ≤ g ∧ W.heap[g]? = some (.cells cur 3 (0, 0)) ∧ ∀ k, k < m → cur[k]? = some (I (f i k)) := by
    intro i hi
    have ho := h.own i hi
    unfold OwnOf at ho
    rcases ho.2 with ⟨h1, h2⟩ | ⟨g, cap, cur, h1, h2, h3, h4, h5, h6, h7⟩
    · simp at h2; omega
    · refine ⟨g, cap, cur, ?_, h2, h3, fun k hk => ?_⟩
      · rw [h1]; simp
      · have e : (cur.toList.take (((List.range m).map (f i)).length * 1))[k]? = some (I (f i k)) := by
          rw [h7, flat_encI]; simp [hk]
        rw [List.getElem?_take] at e
        split at e
        · simpa using e
        · cases e
  have blk : ∀ i, i < n → vs i = .slice (some ⟨blkOf (vs i), 0, none⟩) m (capOf (vs i)) := fun i hi => by
    obtain ⟨g, cap, cur, e, _⟩ := key i hi
    rw [e]; rfl
  have cel : ∀ i, i < n → ∃ cur, base ≤ blkOf (vs i) ∧ W.heap[blkOf (vs i)]? = some (.cells cur 3 (0, 0)) ∧ ∀ k, k < m → cur[k]? = some (I (f i k)) := fun i hi => by
    obtain ⟨g, cap, cur, e, h2, h3, h4⟩ := key i hi
    have : blkOf (vs i) = g := by rw [e]; rfl
    rw [this]; exact ⟨cur, h2, h3, h4⟩
  refine ⟨h.lt, fun i hi => ?_, fun i hi => ?_, h.ftop, fun i k hi hk => ?_, fun i k hi hk => ?_, fun i hi e => ?_, fun i j hi hj e => ?_⟩
  · obtain ⟨cur, h2, h3, _⟩ := cel i hi
    exact ⟨h2, (Array.getElem?_eq_some_iff.1 h3).1⟩
  · rw [h.top i hi]; exact congrArg some (blk i hi)
  · obtain ⟨cur, h2, h3, h4⟩ := cel i hi
    rw [cell_of_row W _ k cur _ (0, 0) h3]; exact h4 k hk
  · obtain ⟨cur, h2, h3, h4⟩ := cel i hi
    unfold World.frozen?; rw [h3]; rfl
  · refine h.ne i hi ?_
    rw [blk i hi]; exact congrArg some e
  · refine h.inj i j hi hj (blkOf (vs i)) ?_ ?_
    · rw [blk i hi]; rfl
    · rw [blk j hj]; exact congrArg some e.symm

theorem tabF_bd {rows : List (List Int)} {t : List Int} (hr : RightR rows t.length) (h1 : t.any oddQ = false) (i j : Nat) (hi : i < t.length) : 0 ≤ tabF rows t i j ∧ tabF rows t i j < 1073741789 := by
  have odd : ∀ x, oddQ x = false → 0 ≤ x ∧ x < 1073741789 := fun x hx => by unfold oddQ at hx; simp at hx; omega
  unfold tabF
  by_cases e : j < rows.length
  · rw [if_pos e]
    obtain ⟨e1, e2⟩ := hr j e
    have : (rows.getD j []).getD i 0 = rows[j][i] := by simp [e, show i < rows[j].length by omega]
    rw [this]
    exact odd _ (by rw [List.any_eq_false] at e2; simpa using e2 rows[j][i] (List.getElem_mem _))
  · rw [if_neg e]
    have : t.getD i 0 = t[i] := by simp [hi]
    rw [this]
    exact odd _ (by rw [List.any_eq_false] at h1; simpa using h1 t[i] (List.getElem_mem _))

/-- A list of a block of the call's own, element by element. -/
structure RowC (W : World) (g n : Nat) (f : Nat → Int) : Prop where
  cell : ∀ j, j < n → W.cell? ⟨g, j, none⟩ = some (I (f j))
  free : ∀ j, j < n → W.frozen? ⟨g, j, none⟩ = false
theorem RowC.set {W : World} {g n : Nat} {f : Nat → Int} (h : RowC W g n f) {k : Nat} (hk : k < n) (x : Int) : RowC (W.setCell ⟨g, k, none⟩ (I x)) g n (upd f k x) := by
  refine ⟨fun j hj => ?_, fun j hj => set_frozen (h.free j hj)⟩
  by_cases e : j = k
  · subst e; rw [upd_same]; exact set_same (h.cell j hj)
  · rw [upd_ne _ _ e]
    exact (World.cell?_setCell_other (h := fun q => e (by injection q with _ q; exact q.symm)) ..).trans (h.cell j hj)
theorem RowC.below {W W' : World} {g n : Nat} {f : Nat → Int} (h : RowC W g n f) (hb : Below W.heap.size W W') : RowC W' g n f :=
  ⟨fun j hj => keep hb (h.cell j hj), fun j hj => (hb.frozen (p := ⟨g, j, none⟩) (cell_old (h.cell j hj))).trans (h.free j hj)⟩
theorem RowC.congr {W : World} {g n : Nat} {f f' : Nat → Int} (h : RowC W g n f) (e : ∀ j, j < n → f j = f' j) : RowC W g n f' :=
  ⟨fun j hj => by rw [← e j hj]; exact h.cell j hj, h.free⟩
theorem addr_add (g i : Nat) : (⟨g, 0, none⟩ : Addr).add i = ⟨g, i, none⟩ := by unfold Addr.add; split <;> simp_all
theorem RowC.ints {W : World} {g n c : Nat} {f : Nat → Int} (h : RowC W g n f) (hn : n ≤ 140737488355328) (hc : n ≤ c) : Ints W (.slice (some ⟨g, 0, none⟩) n c) ((List.range n).map f) := by
  refine ⟨some ⟨g, 0, none⟩, c, by simp, ⟨by simpa using hc, fun h => by cases h⟩, by simpa using hn, fun i hi => ⟨_, rfl, ?_⟩⟩
  rw [addr_add, Nat.mul_one]
  have hi' : i < n := by simpa using hi
  have := h.cell i hi'
  simpa [IntE] using this
/-- A new list of noughts. -/
theorem RowC.zeros {W : World} {base g n c : Nat} (h : W.ownsRow base 3 1 (.slice (some ⟨g, 0, none⟩) n c) n (madeCells (I 0).cells (n * 1)).toList) : RowC W g n (fun _ => 0) := by
  rcases h.2 with ⟨h1, _⟩ | ⟨g', cap, cur, h1, h2, h3, h4, h5, h6, h7⟩
  · cases h1
  · simp only [Value.slice.injEq, Option.some.injEq, Addr.mk.injEq] at h1
    obtain ⟨⟨rfl, _⟩, _, rfl⟩ := h1
    refine ⟨fun i hi => ?_, fun i hi => ?_⟩
    · have e : (cur.toList.take (n * 1))[i]? = some (I 0) := by
        rw [h7]
        show (madeCells #[I 0] (n * 1)).toList[i]? = _
        rw [toList_madeCells_one]
        simp [hi]
      rw [List.getElem?_take] at e
      rw [cell_of_row W _ i cur _ (0, 0) h3]
      split at e
      · simpa using e
      · cases e
    · unfold World.frozen?; rw [h3]; rfl

theorem solB_false {rows : List (List Int)} {t : List Int} {s : (Nat → Nat → Int) × List Nat} (hs : redF rows t = s) {k : Nat} (h1 : s.2.length ≤ k) (h2 : k < t.length) (h3 : s.1 k rows.length ≠ 0) : solB rows t = false := by
  unfold solB
  rw [hs, List.all_eq_false]
  exact ⟨k, List.mem_range.2 h2, by simp [h3]; omega⟩
theorem solB_true {rows : List (List Int)} {t : List Int} {s : (Nat → Nat → Int) × List Nat} (hs : redF rows t = s) (h : ∀ k, s.2.length ≤ k → k < t.length → s.1 k rows.length = 0) : solB rows t = true := by
  unfold solB
  rw [hs, List.all_eq_true]
  intro k hk
  by_cases e : k < s.2.length
  · simp [e]
  · simp [h k (by omega) (List.mem_range.1 hk)]

theorem getD_map_int {l : List Nat} {q : Nat} (h : q < l.length) : (l.map fun p : Nat => (p : Int))[q]'(by rw [List.length_map]; exact h) = ((l.getD q 0 : Nat) : Int) := by simp [h]

set_option maxRecDepth 100000 in
set_option maxHeartbeats 2000000 in
theorem combine_any (vr vt : Value) (rows : List (List Int)) (t : List Int) (w : World) (hv : Rows2 w vr rows) (ht : Ints w vt t) (hr : RightR rows t.length) (h1 : t.any oddQ = false) (hm : t.length ≤ 64) (hn : rows.length ≤ 64) :
    Calls Tryz.prog 144 #[vr, vt] w fun e w' => ∃ vy, e = .returned (.tuple #[vy, .bool (solB rows t), I 0]) ∧ (solB rows t = true → Ints w' vy (solY rows t (redF rows t).2.length)) ∧ Below w.heap.size w w' := by
  obtain ⟨A, ca, rfl, hma⟩ := hv.shape
  obtain ⟨B, cb, rfl, hmb⟩ := ht.shape
  have HV := Lib.hid hv
  have HT := Lib.hid ht
  have HR := Lib.hid hr
  have H1 := Lib.hid h1
  have HM := Lib.hid hm
  have HN := Lib.hid hn
  clear hv ht hr h1 hm hn
  go_enter_defers Tryz.func144, Tryz.ntmps144
  go_wp2_with fail
  have hba := (Below.refl w.heap.size w).alloc (Nat.le_refl _) (.cells #[I 0] 32)
  have hnc := new_cell w (I 0) 32 _ rfl
  refine (examine_any _ _ rows t _ (HV.out.alloc _) (HT.out.alloc _) HR.out H1.out HM.out HN.out).mono ?_
  rintro e w1 ⟨⟨v, rfl⟩, hb1⟩
  have HV1 := Lib.hid ((HV.out.alloc (.cells #[I 0] 32)).below hb1)
  have HT1 := Lib.hid ((HT.out.alloc (.cells #[I 0] 32)).below hb1)
  have HB1 := Lib.hid (below_step hba hb1)
  have HC1 := Lib.hid (keep2 hb1 hnc)
  clear hba hnc hb1
  go_wp2_with fail
  refine (turned_any _ _ rows t _ HV1.out HT1.out (fun q h => (HR.out q h).1) (by have := HN.out; omega) (by have := HM.out; omega)).mono ?_
  rintro e w2 ⟨b, vs, rfl, hto, hb2⟩
  have HTO := Lib.hid hto
  have HB2 := Lib.hid (below_step HB1.out hb2)
  have HC2 := Lib.hid (keep2 hb2 HC1.out)
  clear hto hb2
  have HTB : Hid (Tab w1.heap.size w2 b t.length (rows.length + 1) (fun i => blkOf (vs i)) (fun i => capOf (vs i)) (tabF rows t)) := Lib.hid (TabO.tab (HTO.out.congr fun i _ => tabF_col rows t i) (by omega))
  go_wp2_with fail
  refine (reduce_any b t.length (rows.length + 1) t.length rows.length w1.heap.size _ _ (tabF rows t) _ HTB.out (fun i j hi _ => tabF_bd HR.out H1.out i j hi) (by omega) (by have := HM.out; omega) (by have := HN.out; omega)).mono ?_
  rintro e w3 ⟨v3, ad, cp, rfl, hpv, htb, hb3⟩
  have hred := (redTo_red (n := t.length) (m := rows.length + 1) (fun i j hi _ => tabF_bd HR.out H1.out i j hi) rows.length (by omega)).1
  generalize hs : redTo t.length (rows.length + 1) (tabF rows t) rows.length = s at hpv htb hred
  have HS : Hid (redF rows t = s) := Lib.hid hs
  have HRED := Lib.hid hred
  have hlen := hred.len
  have HTB3 := Lib.hid htb
  have HB3 := Lib.hid (HB2.out.trans (hb3.mono HB1.out.size))
  have HC3 : Hid (w3.cell? ⟨w.heap.size, 0, none⟩ = some (I 0) ∧ w3.frozen? ⟨w.heap.size, 0, none⟩ = false) := Lib.hid ⟨(hb3.cell (p := ⟨w.heap.size, 0, none⟩) (cell_old HC1.out.1)).trans HC2.out.1, (hb3.frozen (p := ⟨w.heap.size, 0, none⟩) (cell_old HC1.out.1)).trans HC2.out.2⟩
  obtain ⟨A4, c4, e4⟩ := hpv.shape
  rw [List.length_map] at e4
  subst e4
  have HPV := Lib.hid hpv
  clear hs hred htb hb3 hpv hma
  obtain ⟨i0, hi0, hzz⟩ := Option.map_eq_some_iff.1 info_int
  simp only [Prod.mk.injEq] at hzz
  have HI := Lib.hid hi0
  have HZ := Lib.hid hzz
  clear hi0 hzz
  by_cases hpl : s.2.length = t.length
  · have hpl2 : t.length ≤ s.2.length := by omega
    have hpl3 : s.2.length ≤ t.length := by omega
    have HSB : Hid (solB rows t = true) := Lib.hid (solB_true HS.out fun k h1 h2 => by omega)
    clear hpl
    go_wp2
    refine wp_loop_rounds 1 ?_
    rw [rounds_succ]
    go_wp2_with (at_make; refine wpList_make_full _ rfl _ _ 23 (by rfl) w3.heap.size 3 i0 (I 0) 1 Tryz.underlying23 HI.out HZ.out.1 HZ.out.2.1 .i64 .i64 _ _ rows.length (by rfl) (by rfl) rfl rfl (by rw [HZ.out.2.2]; have := HN.out; omega) (by have := HN.out; simp only [maxLen]; omega) (Nat.le_refl _) ?_; intro w4 hown4 hgrow4)
    have HR4 := Lib.hid (RowC.zeros hown4)
    have HB4 : Hid (Below w3.heap.size w3 w4) := Lib.hid ((Below.refl w3.heap.size w3).grown hgrow4 (Nat.le_refl _) (fun k hk => by cases hk))
    clear hown4 hgrow4
    go_loopw [12, 13, 44] (fun _ _ j wr => ∃ q : Nat, q ≤ s.2.length ∧ j = I q ∧ Hid (RowC wr w3.heap.size rows.length (yTo s rows.length q)) ∧ Hid (Below w3.heap.size w3 wr)) (fun _ _ j _ => s.2.length - (intOf j).toNat)
    case atStart => exact ⟨0, Nat.zero_le _, rfl, HR4, HB4⟩
    case round =>
      obtain ⟨q, hq, rfl, hrow, hbw⟩ := hrel
      by_cases hlt : q < s.2.length
      · have hpq : s.2[q]? = some (s.2.getD q 0) := by simp [hlt]
        have hlp := HRED.out.lt q _ hpq
        have HE := Lib.hid (getD_map_int hlt)
        obtain ⟨ad4, rfl, hc4⟩ := (((HPV.out.ints (by rw [List.length_map]; have := HM.out; omega)).below hbw.out)).at q (by rw [List.length_map]; exact hlt)
        rw [HE.out] at hc4
        have HT4 := Lib.hid (HTB3.out.below hbw.out)
        have ct := HT4.out.top q (by omega)
        have cr := HT4.out.row q rows.length (by omega) (by omega)
        have cy := hrow.out.cell _ hlp
        have fy := hrow.out.free _ hlp
        have HNX := Lib.hid (hrow.out.set hlp (s.1 q rows.length))
        have HBX := Lib.hid (hbw.out.setCell (p := ⟨w3.heap.size, s.2.getD q 0, none⟩) (Nat.le_refl _) (I (s.1 q rows.length)))
        have hb64 : s.2.getD q 0 ≤ 64 := by have := HN.out; omega
        obtain ⟨pq, hpq'⟩ : ∃ pq, pq = s.2.getD q 0 := ⟨_, rfl⟩
        have HPQ := Lib.hid hpq'
        rw [← hpq'] at hc4 hlp cy fy hb64 HNX HBX
        clear hpq hpq'
        go_wp2
        go_roundw
        case rel => exact ⟨q + 1, by omega, by go_num, Lib.hid (by show RowC _ _ _ (upd _ (s.2.getD q 0) _); rw [← HPQ.out]; exact HNX.out), HBX⟩
        case measure => simp [intOf]; omega
      · obtain rfl : q = s.2.length := by omega
        obtain ⟨hc5, hf5⟩ := keep2 hbw.out HC3.out
        have HFIN : Hid (Below w.heap.size w (wr.setCell ⟨w.heap.size, 0, none⟩ (I 0))) := Lib.hid ((below_step HB3.out hbw.out).setCell (Nat.le_refl _) _)
        have hc6 := set_same (v := I 0) hc5
        have HYS : Hid (Ints (wr.setCell ⟨w.heap.size, 0, none⟩ (I 0)) (.slice (some ⟨w3.heap.size, 0, none⟩) rows.length rows.length) (solY rows t (redF rows t).2.length)) := Lib.hid (by
          rw [HS.out]
          unfold solY
          rw [HS.out]
          have hr5 : RowC (wr.setCell ⟨w.heap.size, 0, none⟩ (I 0)) w3.heap.size rows.length (yTo s rows.length s.2.length) :=
            ⟨fun j hj => set_far (by have := cell_old HC3.out.1; dsimp only at this ⊢; omega) (hrow.out.cell j hj), fun j hj => set_frozen (hrow.out.free j hj)⟩
          exact hr5.ints (by have := HN.out; omega) (Nat.le_refl _))
        go_wp2
        refine leaves_cons (f := 177) (args := #[.pointer (some ⟨w.heap.size, 0, none⟩)]) (by simp) (by simp [go_sem]) ?_
        refine (caught_idle _ _).mono ?_
        rintro e u' w'' ⟨rfl, rfl, rfl⟩
        simp [Leaves, settle, results, Tryz.results144, go_sem, hc6]
        exact ⟨_, ⟨rfl, HSB.out⟩, fun _ => HYS.out, HFIN.out⟩
  · have hpl2 : s.2.length < t.length := by omega
    clear hpl
    go_wp2
    go_loop [4, 5, 11, 30] (fun v4 v5 v11 i => v4 = .slice none 0 0 ∧ v5 = .bool false ∧ ∃ k : Nat, k ≤ t.length - s.2.length ∧ i = I k ∧ Hid (∀ j, j < k → s.1 (s.2.length + j) rows.length = 0)) (fun _ _ _ i => (t.length - s.2.length) - (intOf i).toNat)
    case atStart => exact ⟨rfl, rfl, 0, Nat.zero_le _, rfl, Lib.hid (fun j hj => by omega)⟩
    case round =>
      obtain ⟨rfl, rfl, k, hk, rfl, hz⟩ := hrel
      by_cases hlt : k < t.length - s.2.length
      · have ct := HTB3.out.top (s.2.length + k) (by omega)
        have cr := HTB3.out.row (s.2.length + k) rows.length (by omega) (by omega)
        by_cases hx : s.1 (s.2.length + k) rows.length = 0
        · have g : (s.1 (s.2.length + k) rows.length != 0) = false := by rw [hx]; rfl
          have HX := Lib.hid hx
          clear hx
          go_wp2
          go_round
          case rel => exact ⟨rfl, rfl, k + 1, by omega, by go_num, Lib.hid (fun j hj => by
            by_cases e : j = k
            · subst e; exact HX.out
            · exact hz.out j (by omega))⟩
          case measure => simp [intOf]; omega
        · have g : (s.1 (s.2.length + k) rows.length != 0) = true := bne_iff_ne.2 hx
          have HSB : Hid (solB rows t = false) := Lib.hid (solB_false HS.out (by omega) (by omega) hx)
          obtain ⟨hc5, hf5⟩ := HC3.out
          have HFIN : Hid (Below w.heap.size w (w3.setCell ⟨w.heap.size, 0, none⟩ (I 0))) := Lib.hid (HB3.out.setCell (Nat.le_refl _) _)
          have hc6 := set_same (v := I 0) hc5
          clear hx
          go_wp2
          refine leaves_cons (f := 177) (args := #[.pointer (some ⟨w.heap.size, 0, none⟩)]) (by simp) (by simp [go_sem]) ?_
          refine (caught_idle _ _).mono ?_
          rintro e u' w'' ⟨rfl, rfl, rfl⟩
          simp [Leaves, settle, results, Tryz.results144, go_sem, hc6]
          exact ⟨_, ⟨rfl, HSB.out⟩, (fun h => absurd h (by rw [HSB.out]; decide)), HFIN.out⟩
      · obtain rfl : k = t.length - s.2.length := by omega
        have HSB : Hid (solB rows t = true) := Lib.hid (solB_true HS.out fun j h1 h2 => by
          have := hz.out (j - s.2.length) (by omega)
          rwa [show s.2.length + (j - s.2.length) = j by omega] at this)
        go_wp2_with (at_make; refine wpList_make_full _ rfl _ _ 23 (by rfl) w3.heap.size 3 i0 (I 0) 1 Tryz.underlying23 HI.out HZ.out.1 HZ.out.2.1 .i64 .i64 _ _ rows.length (by rfl) (by rfl) rfl rfl (by rw [HZ.out.2.2]; have := HN.out; omega) (by have := HN.out; simp only [maxLen]; omega) (Nat.le_refl _) ?_; intro w4 hown4 hgrow4)
        have HR4 := Lib.hid (RowC.zeros hown4)
        have HB4 : Hid (Below w3.heap.size w3 w4) := Lib.hid ((Below.refl w3.heap.size w3).grown hgrow4 (Nat.le_refl _) (fun k hk => by cases hk))
        clear hown4 hgrow4
        go_loopw [12, 13, 44] (fun _ _ j wr => ∃ q : Nat, q ≤ s.2.length ∧ j = I q ∧ Hid (RowC wr w3.heap.size rows.length (yTo s rows.length q)) ∧ Hid (Below w3.heap.size w3 wr)) (fun _ _ j _ => s.2.length - (intOf j).toNat)
        case atStart => exact ⟨0, Nat.zero_le _, rfl, HR4, HB4⟩
        case round =>
          obtain ⟨q, hq, rfl, hrow, hbw⟩ := hrel
          by_cases hlt : q < s.2.length
          · have hpq : s.2[q]? = some (s.2.getD q 0) := by simp [hlt]
            have hlp := HRED.out.lt q _ hpq
            have HE := Lib.hid (getD_map_int hlt)
            obtain ⟨ad4, rfl, hc4⟩ := (((HPV.out.ints (by rw [List.length_map]; have := HM.out; omega)).below hbw.out)).at q (by rw [List.length_map]; exact hlt)
            rw [HE.out] at hc4
            have HT4 := Lib.hid (HTB3.out.below hbw.out)
            have ct := HT4.out.top q (by omega)
            have cr := HT4.out.row q rows.length (by omega) (by omega)
            have cy := hrow.out.cell _ hlp
            have fy := hrow.out.free _ hlp
            have HNX := Lib.hid (hrow.out.set hlp (s.1 q rows.length))
            have HBX := Lib.hid (hbw.out.setCell (p := ⟨w3.heap.size, s.2.getD q 0, none⟩) (Nat.le_refl _) (I (s.1 q rows.length)))
            have hb64 : s.2.getD q 0 ≤ 64 := by have := HN.out; omega
            obtain ⟨pq, hpq'⟩ : ∃ pq, pq = s.2.getD q 0 := ⟨_, rfl⟩
            have HPQ := Lib.hid hpq'
            rw [← hpq'] at hc4 hlp cy fy hb64 HNX HBX
            clear hpq hpq'
            go_wp2
            go_roundw
            case rel => exact ⟨q + 1, by omega, by go_num, Lib.hid (by show RowC _ _ _ (upd _ (s.2.getD q 0) _); rw [← HPQ.out]; exact HNX.out), HBX⟩
            case measure => simp [intOf]; omega
          · obtain rfl : q = s.2.length := by omega
            obtain ⟨hc5, hf5⟩ := keep2 hbw.out HC3.out
            have HFIN : Hid (Below w.heap.size w (wr.setCell ⟨w.heap.size, 0, none⟩ (I 0))) := Lib.hid ((below_step HB3.out hbw.out).setCell (Nat.le_refl _) _)
            have hc6 := set_same (v := I 0) hc5
            have HYS : Hid (Ints (wr.setCell ⟨w.heap.size, 0, none⟩ (I 0)) (.slice (some ⟨w3.heap.size, 0, none⟩) rows.length rows.length) (solY rows t (redF rows t).2.length)) := Lib.hid (by
              rw [HS.out]
              unfold solY
              rw [HS.out]
              have hr5 : RowC (wr.setCell ⟨w.heap.size, 0, none⟩ (I 0)) w3.heap.size rows.length (yTo s rows.length s.2.length) :=
                ⟨fun j hj => set_far (by have := cell_old HC3.out.1; dsimp only at this ⊢; omega) (hrow.out.cell j hj), fun j hj => set_frozen (hrow.out.free j hj)⟩
              exact hr5.ints (by have := HN.out; omega) (Nat.le_refl _))
            go_wp2
            refine leaves_cons (f := 177) (args := #[.pointer (some ⟨w.heap.size, 0, none⟩)]) (by simp) (by simp [go_sem]) ?_
            refine (caught_idle _ _).mono ?_
            rintro e u' w'' ⟨rfl, rfl, rfl⟩
            simp [Leaves, settle, results, Tryz.results144, go_sem, hc6]
            exact ⟨_, ⟨rfl, HSB.out⟩, fun _ => HYS.out, HFIN.out⟩

end Go.Proofs.YtgacdmkhgllceaaGreatDoor
