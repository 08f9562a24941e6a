/- table.reduce walked. (Printed by wip/tools/gen_lin5.py.) -/
import Derived.Test.YtgacdmkhgllceaaGreatDoorZLin4
import Derived.Test.YtgacdmkhgllceaaGreatDoorZApp
namespace Go.Proofs.YtgacdmkhgllceaaGreatDoor
open Go.RowKit Go.Shelf
attribute [local go_sem] Oper.semAt_some

/-- The mark that a range over a function leaves. -/
def markOf (d : Nat) : Deferred := { target := .collected d, args := #[] }
/-- The marks' blocks are open still. -/
def Marks (base : Nat) (W : World) (ds : List Nat) : Prop := ds.Nodup ∧ ∀ d ∈ ds, base ≤ d ∧ W.heap[d]? = some (.deferred (some []))

theorem leaves_marks {F : Fence} {n : Nat} {P : Program} {fn : Func} {tmps : Array Value} {R : Ending → World → Prop} (base : Nat) : ∀ (ds : List Nat) (W : World), Marks base W ds → (∀ W', Same (fun k => k ∉ ds) W W' → LeavesInM F n P fn tmps R [] .returning W') →
    LeavesInM F n P fn tmps R (ds.map markOf) .returning W
  | [], W, _, h => h W (Same.refl _ _)
  | d :: ds, W, ⟨hn, hm⟩, h => by
    obtain ⟨hd1, hd2⟩ := hm d (.head _)
    refine ⟨by simp, .inl ⟨d, _, rfl, run_takeDeferred hd2, ?_⟩⟩
    have hb : Same (fun k => k ∉ d :: ds) W (W.putObj d (.deferred none)) := (Same.refl _ W).putObj (.inl (fun h => h (.head _))) _
    refine leaves_marks base ds _ ⟨(List.nodup_cons.1 hn).2, fun e he => ⟨(hm e (.tail _ he)).1, ?_⟩⟩ (fun W' hW' => h W' (hb.trans2 hW' fun k _ hk => fun q => hk (.tail _ q)))
    exact (World.putObj_heap_other (fun q => (List.nodup_cons.1 hn).1 (by rw [← q]; exact he))).trans (hm e (.tail _ he)).2

/-- What owns a block of cells is no mark. -/
theorem own_no_mark {base e : Nat} {W : World} {b0 : Nat} {v : Value} {xs : List Int} {ds : List Nat} (h : OwnOf e 1 encI W base v xs) (hm : Marks b0 W ds) : ∀ k, v.ownBlock = some k → k ∉ ds := by
  intro k hk hd
  rcases h.2 with ⟨h1, _⟩ | ⟨g, cap, cur, h1, h2, h3, _⟩
  · rw [h1] at hk; simp [Value.ownBlock] at hk
  · rw [h1] at hk; simp [Value.ownBlock] at hk; subst hk
    rw [(hm.2 g hd).2] at h3; cases h3

def swapN (f : Nat → Nat) (r k : Nat) : Nat → Nat := fun i => if i = r then f k else if i = k then f r else f i

theorem Tab.swap {base : Nat} {W : World} {b n m : Nat} {ad cp : Nat → Nat} {f : Nat → Nat → Int} (h : Tab base W b n m ad cp f) {r k : Nat} (hr : r < n) (hk : k < n) :
    Tab base ((W.setCell ⟨b, r, none⟩ (.slice (some ⟨ad k, 0, none⟩) m (cp k))).setCell ⟨b, k, none⟩ (.slice (some ⟨ad r, 0, none⟩) m (cp r))) b n m (swapN ad r k) (swapN cp r k) (swapR f r k) := by
  have hsz : ((W.setCell ⟨b, r, none⟩ (.slice (some ⟨ad k, 0, none⟩) m (cp k))).setCell ⟨b, k, none⟩ (.slice (some ⟨ad r, 0, none⟩) m (cp r))).heap.size = W.heap.size := by simp [World.setCell]
  have hsw : ∀ i, i < n → ∃ j, j < n ∧ swapN ad r k i = ad j ∧ swapR f r k i = f j ∧ (i = r ∧ j = k ∨ i = k ∧ j = r ∨ i ≠ r ∧ i ≠ k ∧ j = i) := fun i hi => by
    unfold swapN swapR
    by_cases e : i = r
    · exact ⟨k, hk, by rw [if_pos e], by rw [if_pos e], .inl ⟨e, rfl⟩⟩
    · by_cases e2 : i = k
      · exact ⟨r, hr, by rw [if_neg e, if_pos e2], by rw [if_neg e, if_pos e2], .inr (.inl ⟨e2, rfl⟩)⟩
      · exact ⟨i, hi, by rw [if_neg e, if_neg e2], by rw [if_neg e, if_neg e2], .inr (.inr ⟨e, e2, rfl⟩)⟩
  have hoff : ∀ x y : Nat, x ≠ y → (⟨b, x, none⟩ : Addr) ≠ ⟨b, y, none⟩ := fun x y hne q => by injection q with _ q; exact hne q
  refine ⟨⟨h.lt.1, by rw [hsz]; exact h.lt.2⟩, fun i hi => ?_, fun i hi => ?_, fun i hi => set_frozen (set_frozen (h.ftop i hi)), fun i q hi hq => ?_, fun i q hi hq => ?_, fun i hi => ?_, fun i j hi hj e => ?_⟩
  · obtain ⟨j, hj, e, _⟩ := hsw i hi
    rw [e, hsz]; exact h.alt j hj
  · unfold swapN
    by_cases e : i = k
    · subst e
      have hc : ∃ u, (W.setCell ⟨b, r, none⟩ (.slice (some ⟨ad i, 0, none⟩) m (cp i))).cell? ⟨b, i, none⟩ = some u := by
        by_cases e2 : i = r
        · subst e2; exact ⟨_, set_same (h.top i hi)⟩
        · exact ⟨_, (World.cell?_setCell_other (h := hoff r i (fun q => e2 q.symm)) ..).trans (h.top i hi)⟩
      obtain ⟨u, hu⟩ := hc
      rw [set_same hu]
      by_cases e2 : i = r
      · subst e2; simp
      · simp [e2]
    · rw [World.cell?_setCell_other (h := hoff k i (fun q => e q.symm))]
      by_cases e2 : i = r
      · subst e2; rw [set_same (h.top i hi)]; simp
      · rw [World.cell?_setCell_other (h := hoff r i (fun q => e2 q.symm)), h.top i hi]; simp [e, e2]
  · obtain ⟨j, hj, e, e2, _⟩ := hsw i hi
    rw [e, e2]
    exact set_far (fun q2 => h.ne j hj q2.symm) (set_far (fun q2 => h.ne j hj q2.symm) (h.row j q hj hq))
  · obtain ⟨j, hj, e, e2, _⟩ := hsw i hi
    rw [e]; exact set_frozen (set_frozen (h.frow j q hj hq))
  · obtain ⟨j, hj, e, _⟩ := hsw i hi
    rw [e]; exact h.ne j hj
  · obtain ⟨i', hi', e1, _, c1⟩ := hsw i hi
    obtain ⟨j', hj', e2, _, c2⟩ := hsw j hj
    rw [e1, e2] at e
    have := h.inj i' j' hi' hj' e
    omega

theorem scaleP_zero (f : Nat → Nat → Int) (r c : Nat) (nv : Int) : scaleP f r c 0 nv = f := by
  funext i j; unfold scaleP; rw [if_neg (by omega)]
theorem scaleP_succ (f : Nat → Nat → Int) (r c q : Nat) (nv : Int) : upd2 (scaleP f r c q nv) r (c + q) (mul (f r (c + q)) nv) = scaleP f r c (q + 1) nv := by
  funext i k; unfold upd2
  by_cases e : i = r ∧ k = c + q
  · obtain ⟨rfl, rfl⟩ := e
    rw [if_pos ⟨rfl, rfl⟩]; unfold scaleP; rw [if_pos ⟨rfl, by omega, by omega⟩]
  · rw [if_neg e]; unfold scaleP
    by_cases e2 : i = r ∧ c ≤ k ∧ k < c + q
    · rw [if_pos e2, if_pos ⟨e2.1, e2.2.1, by omega⟩]
    · rw [if_neg e2, if_neg (fun h => e2 ⟨h.1, h.2.1, by
        have : ¬ k = c + q := fun q => e ⟨h.1, q⟩
        omega⟩)]

theorem clrA_skip (f : Nat → Nat → Int) (c m : Nat) {q r : Nat} (h : q = r) (i j : Nat) : clrA f r c m q i j = clrA f r c m (q + 1) i j := by
  unfold clrA
  by_cases e : i < q ∧ i ≠ r ∧ f i c ≠ 0 ∧ c ≤ j ∧ j < m
  · rw [if_pos e, if_pos ⟨by omega, e.2⟩]
  · rw [if_neg e, if_neg (fun h2 => e ⟨by omega, h2.2⟩)]
theorem clrA_step (f : Nat → Nat → Int) {r c m q : Nat} (hc : c < m) (hq : q ≠ r) (i j : Nat) (hj : j < m) :
    (if clrA f r c m q q c = 0 then clrA f r c m q else clrP (clrA f r c m q) q r c (m - c)) i j = clrA f r c m (q + 1) i j := by
  have e1 : ∀ x, clrA f r c m q q x = f q x := fun x => by unfold clrA; rw [if_neg (by omega)]
  have e2 : ∀ x, clrA f r c m q r x = f r x := fun x => by unfold clrA; rw [if_neg (fun h => h.2.1 rfl)]
  rw [e1]
  by_cases hz : f q c = 0
  · rw [if_pos hz]
    unfold clrA
    by_cases e : i < q ∧ i ≠ r ∧ f i c ≠ 0 ∧ c ≤ j ∧ j < m
    · rw [if_pos e, if_pos ⟨by omega, e.2⟩]
    · rw [if_neg e, if_neg (fun h2 => e ⟨by
        have : i ≠ q := fun e3 => by subst e3; exact h2.2.2.1 hz
        omega, h2.2⟩)]
  · rw [if_neg hz]
    unfold clrP
    by_cases e : i = q ∧ c ≤ j ∧ j < c + (m - c)
    · obtain ⟨rfl, h1, h2⟩ := e
      rw [if_pos ⟨rfl, h1, h2⟩, e1, e1, e2]
      conv => rhs; unfold clrA
      rw [if_pos ⟨by omega, hq, hz, h1, hj⟩]
    · rw [if_neg e]
      unfold clrA
      by_cases e3 : i < q ∧ i ≠ r ∧ f i c ≠ 0 ∧ c ≤ j ∧ j < m
      · rw [if_pos e3, if_pos ⟨by omega, e3.2⟩]
      · rw [if_neg e3, if_neg (fun h2 => e3 ⟨by
          have : i ≠ q := fun e4 => e ⟨e4, h2.2.2.2.1, by omega⟩
          omega, h2.2⟩)]

/-- The state of the reduction, c columns done. -/
structure RedSt (base : Nat) (w : World) (b n m ct : Nat) (f : Nat → Nat → Int) (c : Nat) (u4 : Value) (ds : List Nat) (W : World) : Prop where
  tab : ∃ ad cp, Tab base W b n m ad cp (redTo n m f c).1 ∧ ∀ i, i < n → ad i < w.heap.size
  piv : OwnOf 3 1 encI W w.heap.size u4 ((redTo n m f c).2.map fun p : Nat => (p : Int))
  low : Below base w W
  big : w.heap.size < W.heap.size
  box : W.cell? ⟨w.heap.size, 0, none⟩ = some (.slice (some ⟨b, 0, none⟩) n ct)
  boxne : u4.ownBlock ≠ some w.heap.size
  marks : Marks (w.heap.size + 1) W ds

/-- A frame of known size, written out. -/
theorem lit_arr (A : Array Value) : A = ((List.range A.size).map fun k => A.getD k undef).toArray := by
  apply Array.ext
  · simp
  · intro i h1 h2; simp [h1]
theorem lit102 (A : Array Value) (h : A.size = 102) : ∃ g : Nat → Value, (∀ k, A.getD k undef = g k) ∧ A = #[g 0, g 1, g 2, g 3, g 4, g 5, g 6, g 7, g 8, g 9, g 10, g 11, g 12, g 13, g 14, g 15, g 16, g 17, g 18, g 19, g 20, g 21, g 22, g 23, g 24, g 25, g 26, g 27, g 28, g 29, g 30, g 31, g 32, g 33, g 34, g 35, g 36, g 37, g 38, g 39, g 40, g 41, g 42, g 43, g 44, g 45, g 46, g 47, g 48, g 49, g 50, g 51, g 52, g 53, g 54, g 55, g 56, g 57, g 58, g 59, g 60, g 61, g 62, g 63, g 64, g 65, g 66, g 67, g 68, g 69, g 70, g 71, g 72, g 73, g 74, g 75, g 76, g 77, g 78, g 79, g 80, g 81, g 82, g 83, g 84, g 85, g 86, g 87, g 88, g 89, g 90, g 91, g 92, g 93, g 94, g 95, g 96, g 97, g 98, g 99, g 100, g 101] := by
  refine ⟨fun k => A.getD k undef, fun _ => rfl, ?_⟩
  conv => lhs; rw [lit_arr A, h]
  rfl

/-- What the frame of reduce holds at the head of its loop. -/
structure RFr (w : World) (b n ct many c : Nat) (u4 : Value) (ds : List Nat) (a : Act) : Prop where
  size : a.tmps.size = 102
  s0 : a.tmps.getD 0 undef = .slice (some ⟨b, 0, none⟩) n ct
  s1 : a.tmps.getD 1 undef = I many
  s2 : a.tmps.getD 2 undef = .pointer (some ⟨w.heap.size, 0, none⟩)
  s4 : a.tmps.getD 4 undef = u4
  s13 : a.tmps.getD 13 undef = I many
  s14 : a.tmps.getD 14 undef = I c
  dfs : a.defers = ds.map markOf

theorem RFr.lit {w : World} {b n ct many c : Nat} {u4 : Value} {ds : List Nat} {a : Act} (h : RFr w b n ct many c u4 ds a) : ∃ g : Nat → Value, a = { tmps := #[.slice (some ⟨b, 0, none⟩) n ct, I many, .pointer (some ⟨w.heap.size, 0, none⟩), g 3, u4, g 5, g 6, g 7, g 8, g 9, g 10, g 11, g 12, I many, I c, g 15, g 16, g 17, g 18, g 19, g 20, g 21, g 22, g 23, g 24, g 25, g 26, g 27, g 28, g 29, g 30, g 31, g 32, g 33, g 34, g 35, g 36, g 37, g 38, g 39, g 40, g 41, g 42, g 43, g 44, g 45, g 46, g 47, g 48, g 49, g 50, g 51, g 52, g 53, g 54, g 55, g 56, g 57, g 58, g 59, g 60, g 61, g 62, g 63, g 64, g 65, g 66, g 67, g 68, g 69, g 70, g 71, g 72, g 73, g 74, g 75, g 76, g 77, g 78, g 79, g 80, g 81, g 82, g 83, g 84, g 85, g 86, g 87, g 88, g 89, g 90, g 91, g 92, g 93, g 94, g 95, g 96, g 97, g 98, g 99, g 100, g 101], defers := ds.map markOf } := by
  obtain ⟨A, d⟩ := a
  obtain ⟨h0, h1, h2, h3, h4, h5, h6, h7⟩ := h
  dsimp only at h0 h1 h2 h3 h4 h5 h6 h7
  obtain ⟨g, hg, e⟩ := lit102 A h0
  rw [hg] at h1 h2 h3 h4 h5 h6
  exact ⟨g, by rw [e, h7, h1, h2, h3, h4, h5, h6]⟩

theorem Marks.below {b0 : Nat} {W W' : World} {ds : List Nat} (h : Marks b0 W ds) (hb : Below W.heap.size W W') : Marks b0 W' ds :=
  ⟨h.1, fun d hd => ⟨(h.2 d hd).1, (hb.block d (Array.getElem?_eq_some_iff.1 (h.2 d hd).2).1).trans (h.2 d hd).2⟩⟩
theorem RedSt.skip {base : Nat} {w : World} {b n m ct : Nat} {f : Nat → Nat → Int} {c : Nat} {u4 : Value} {ds : List Nat} {W W' : World} (h : RedSt base w b n m ct f c u4 ds W) (hb : Below W.heap.size W W') (e : redTo n m f (c + 1) = redTo n m f c) : RedSt base w b n m ct f (c + 1) u4 ds W' := by
  obtain ⟨⟨ad, cp, h1, h2⟩, h3, h4, h5, h6, h7, h8⟩ := h
  refine ⟨⟨ad, cp, by rw [e]; exact h1.below hb, h2⟩, by rw [e]; exact h3.below hb, ⟨hb.os.trans h4.os, hb.tape.trans h4.tape, hb.output.trans h4.output, Nat.le_trans h4.size hb.size, fun k hk => ?_⟩, Nat.lt_of_lt_of_le h5 hb.size, (hb.cell (cell_old h6)).trans h6, h7, h8.below hb⟩
  by_cases hkw : k < W.heap.size
  · exact (hb.block k hkw).trans (h4.block k hk)
  · have := h1.lt; omega

set_option maxRecDepth 100000 in
set_option maxHeartbeats 4000000 in
theorem reduce_any (b n m ct many base : Nat) (ad cp : Nat → Nat) (f : Nat → Nat → Int) (w : World) (ht : Tab base w b n m ad cp f) (hf : ∀ i j, i < n → j < m → 0 ≤ f i j ∧ f i j < 1073741789) (hmm : many ≤ m) (hn : n ≤ 1000) (hm : m ≤ 1000) :
    Calls Tryz.prog 180 #[.slice (some ⟨b, 0, none⟩) n ct, I many] w fun e w' => ∃ v ad' cp', e = .returned v ∧ OwnOf 3 1 encI w' w.heap.size v ((redTo n m f many).2.map fun p : Nat => (p : Int)) ∧ Tab base w' b n m ad' cp' (redTo n m f many).1 ∧ Below base w w' := by
  have HT := Lib.hid ht
  have HF := Lib.hid hf
  have hbl := ht.lt
  clear ht hf
  refine (callsIn_wide (n := 5)).1 ?_
  refine callsIn_of_wp_marks Tryz.func180 rfl trivial ?_
  simp only [Tryz.ntmps180, List.size_toArray, List.length_cons, List.length_nil, Nat.reduceAdd, Nat.reduceSub, Array.replicate_succ, Array.replicate_zero, List.push_toArray, List.append_toArray, List.nil_append, List.cons_append]
  gi_wp2
  refine wpIn_loop (fun a W => ∃ (c : Nat) (ds : List Nat) (u4 : Value), c ≤ many ∧ Hid (RedSt base w b n m ct f c u4 ds W) ∧ RFr w b n ct many c u4 ds a) (fun a _ => many - (intOf (a.tmps.getD 14 undef)).toNat) ?start ?round
  case start =>
    refine ⟨0, [], _, Nat.zero_le _, Lib.hid ?_, ⟨rfl, rfl, rfl, rfl, rfl, rfl, rfl, rfl⟩⟩
    have hb : Below w.heap.size w (w.alloc (.cells #[.slice (some ⟨b, 0, none⟩) n ct] 203)) := (Below.refl _ w).alloc (Nat.le_refl _) _
    refine ⟨⟨ad, cp, HT.out.below hb, fun i hi => (HT.out.alt i hi).2⟩, OwnOf.nil _ _ _ _ _, (Below.refl base w).alloc (by omega) _, by simp, by simp, by simp [Value.ownBlock], List.nodup_nil, fun d hd => by cases hd⟩
  case round =>
    rintro a W ⟨c, ds, u4, hc, hst, hfr⟩
    obtain ⟨g, rfl⟩ := hfr.lit
    by_cases hlt : c < many
    · obtain ⟨ad0, cp0, ht0, hal⟩ := hst.out.tab
      generalize hs : redTo n m f c = s at ht0
      have HS := Lib.hid hs
      have hpl := hst.out.piv
      rw [hs] at hpl
      obtain ⟨A4, c4, e4⟩ := hpl.shape
      rw [List.length_map] at e4
      subst e4
      have HRED := Lib.hid (redTo_red (n := n) (m := m) HF.out c (by omega)).1
      rw [hs] at HRED
      have hbox := hst.out.box
      have hbig := hst.out.big
      have hlen := HRED.out.len
      have HT0 := Lib.hid ht0
      have HP0 := Lib.hid hpl
      clear hpl ht0 hs
      gi_wp2
      have hb1 : Below W.heap.size W (W.alloc (.cells #[I s.2.length] 3)) := (Below.refl _ W).alloc (Nat.le_refl _) _
      have hbox1 := keepA (.cells #[I s.2.length] 3) hbox
      have HT1 := Lib.hid (HT0.out.below hb1)
      have hcm : c < m := by omega
      gi_loop [7] (fun v => ∃ k : Nat, v = I k ∧ s.2.length ≤ k ∧ k ≤ n ∧ Hid (∀ i, s.2.length ≤ i → i < k → s.1 i c = 0)) (fun v => n - (intOf v).toNat)
      case atStart => exact ⟨s.2.length, rfl, Nat.le_refl _, hlen, Lib.hid (fun i h1 h2 => by omega)⟩
      case round =>
        obtain ⟨k, rfl, hk1, hk2, hkz⟩ := hrel
        by_cases hkn : k < n
        · have htk := HT1.out.top k hkn
          have hrk := HT1.out.row k c hkn hcm
          by_cases hz : s.1 k c = 0
          · have gz : (s.1 k c == 0) = true := beq_iff_eq.2 hz
            have HZ := Lib.hid hz
            clear hz
            gi_wp2
            go_round
            case rel => exact ⟨k + 1, by go_num, by omega, by omega, Lib.hid (fun i h1 h2 => by
              by_cases e : i = k
              · subst e; exact HZ.out
              · exact hkz.out i h1 (by omega))⟩
            case measure => simp [intOf]; omega
          · have gz : (s.1 k c == 0) = false := beq_eq_false_iff_ne.2 hz
            have HZ := Lib.hid hz
            have gkn : ((k : Int) == (n : Int)) = false := beq_eq_false_iff_ne.2 (by omega)
            have gkn2 : (k == n) = false := beq_eq_false_iff_ne.2 (by omega)
            clear hz
            have hrn : s.2.length < n := by omega
            have htr := HT1.out.top s.2.length hrn
            have hr6 : (W.alloc (.cells #[I s.2.length] 3)).cell? ⟨W.heap.size, 0, none⟩ = some (I s.2.length) := (new_cell W (I s.2.length) 3 _ rfl).1
            have HW1s : Hid ((W.alloc (.cells #[I s.2.length] 3)).heap.size = W.heap.size + 1) := Lib.hid (by simp)
            gi_wp2
            obtain ⟨W1, hW1⟩ : ∃ W1, W.alloc (.cells #[I s.2.length] 3) = W1 := ⟨_, rfl⟩
            rw [hW1] at hr6 htr htk hbox1 hb1 HT1 hrk HW1s ⊢
            refine Rely.regionBIn _ _ _ _ (by kernel_rfl) [0,1,2,3,4,5,6,7,8,9,10,11] [] [12,13,14,15] (fun _ _ _ => True) (fun w' => w'.cell? ⟨w.heap.size, 0, none⟩ = some (.slice (some ⟨b, 0, none⟩) n ct)) (by kernel_rfl) (fun w' hb => (hb.cell (cell_old hbox1)).trans hbox1) ?_
            (refine Rely.Fx.loadIn ?rlc1 rfl (by kernel_rfl) rfl rfl rfl (Rely.Stab.refl _ _ _) (fun _ hb => ?rlh1) ?rlk1; (case rlh1 => (have hrl := (hb.cell (cell_old hbox1)).trans hbox1; go_simp; try rfl)); go_simp)
            (refine Rely.Fx.loadIn ?rlc2 rfl (by kernel_rfl) rfl rfl rfl (Rely.Stab.refl _ _ _) (fun _ hb => ?rlh2) ?rlk2; (case rlh2 => (have hrl := (hb.cell (cell_old hr6)).trans hr6; go_simp; try rfl)); go_simp)
            (refine Rely.Fx.runIn ?rlc3 rfl rfl rfl rfl (fun _ _ => ?rlh3) ?rlk3; (case rlh3 => (go_simp; try rfl)); go_simp)
            (refine Rely.Fx.runIn ?rlc4 rfl rfl rfl rfl (fun _ _ => ?rlh4) ?rlk4; (case rlh4 => (go_simp; try rfl)); go_simp)
            (refine Rely.Fx.loadIn ?rlc5 rfl (by kernel_rfl) rfl rfl rfl (Rely.Stab.refl _ _ _) (fun _ hb => ?rlh5) ?rlk5; (case rlh5 => (have hrl := (hb.cell (cell_old hbox1)).trans hbox1; go_simp; try rfl)); go_simp)
            (refine Rely.Fx.runIn ?rlc6 rfl rfl rfl rfl (fun _ _ => ?rlh6) ?rlk6; (case rlh6 => (go_simp; try rfl)); go_simp)
            (refine Rely.Fx.runIn ?rlc7 rfl rfl rfl rfl (fun _ _ => ?rlh7) ?rlk7; (case rlh7 => (go_simp; try rfl)); go_simp)
            (refine Rely.Fx.loadIn ?rlc8 rfl (by kernel_rfl) rfl rfl rfl (Rely.Stab.refl _ _ _) (fun _ hb => ?rlh8) ?rlk8; (case rlh8 => (have hrl := (hb.cell (cell_old htk)).trans htk; go_simp; try rfl)); go_simp)
            (refine Rely.Fx.loadIn ?rlc9 rfl (by kernel_rfl) rfl rfl rfl (Rely.Stab.refl _ _ _) (fun _ hb => ?rlh9) ?rlk9; (case rlh9 => (have hrl := (hb.cell (cell_old hbox1)).trans hbox1; go_simp; try rfl)); go_simp)
            (refine Rely.Fx.loadIn ?rlc10 rfl (by kernel_rfl) rfl rfl rfl (Rely.Stab.refl _ _ _) (fun _ hb => ?rlh10) ?rlk10; (case rlh10 => (have hrl := (hb.cell (cell_old hr6)).trans hr6; go_simp; try rfl)); go_simp)
            (refine Rely.Fx.runIn ?rlc11 rfl rfl rfl rfl (fun _ _ => ?rlh11) ?rlk11; (case rlh11 => (go_simp; try rfl)); go_simp)
            (refine Rely.Fx.loadIn ?rlc12 rfl (by kernel_rfl) rfl rfl rfl (Rely.Stab.refl _ _ _) (fun _ hb => ?rlh12) ?rlk12; (case rlh12 => (have hrl := (hb.cell (cell_old htr)).trans htr; go_simp; try rfl)); go_simp)
            refine Rely.Fx.done ?_
            refine Rely.Lt.done ?_
            intro w' hb _
            have HB2 := Lib.hid hb
            have HT2 := Lib.hid (HT1.out.below hb)
            have c1 := HT2.out.top s.2.length hrn
            have f1 := HT2.out.ftop s.2.length hrn
            have c2 : ∃ u, (w'.setCell ⟨b, s.2.length, none⟩ (.slice (some ⟨ad0 k, 0, none⟩) m (cp0 k))).cell? ⟨b, k, none⟩ = some u := by
              by_cases e : k = s.2.length
              · rw [e]; exact ⟨_, set_same c1⟩
              · exact ⟨_, (World.cell?_setCell_other (h := fun q => e (by injection q with _ q; exact q.symm)) ..).trans (HT2.out.top k hkn)⟩
            obtain ⟨u2, c2⟩ := c2
            have f2 : (w'.setCell ⟨b, s.2.length, none⟩ (.slice (some ⟨ad0 k, 0, none⟩) m (cp0 k))).frozen? ⟨b, k, none⟩ = false := set_frozen (HT2.out.ftop k hkn)
            have hbx := (hb.cell (cell_old hbox1)).trans hbox1
            have hbx2 : (w'.setCell ⟨b, s.2.length, none⟩ (.slice (some ⟨ad0 k, 0, none⟩) m (cp0 k))).cell? ⟨w.heap.size, 0, none⟩ = some (.slice (some ⟨b, 0, none⟩) n ct) := set_far (by dsimp only; omega) hbx
            clear hb
            (refine Rely.Tl.stepIn (o := ?rlo13) ?rlho13 ?rlk13; (case rlho13 => (simp only [List.getElem?_toArray, List.getElem?_cons_succ, List.getElem?_cons_zero]; rfl)))
            gi_wp2
            refine ⟨rfl, hbx, ?_⟩
            (refine Rely.Tl.stepIn (o := ?rlo14) ?rlho14 ?rlk14; (case rlho14 => (simp only [List.getElem?_toArray, List.getElem?_cons_succ, List.getElem?_cons_zero]; rfl)))
            gi_wp2
            refine ⟨rfl, hbx2, ?_⟩
            (refine Rely.Tl.stepIn (o := ?rlo15) ?rlho15 ?rlk15; (case rlho15 => (simp only [List.getElem?_toArray, List.getElem?_cons_succ, List.getElem?_cons_zero]; rfl)))
            gi_wp2
            refine ⟨rfl, hbx2, ?_⟩
            (refine Rely.Tl.lastIn (o := ?rlo16) ?rlho16 ?rlk16; (case rlho16 => (simp only [List.getElem?_toArray, List.getElem?_cons_succ, List.getElem?_cons_zero]; rfl)))
            gi_wp2
            refine ⟨rfl, ?_⟩
            have HT3 := Lib.hid (HT2.out.swap hrn hkn)
            have hbx3 := set_far (a := ⟨b, k, none⟩) (v := .slice (some ⟨ad0 s.2.length, 0, none⟩) m (cp0 s.2.length)) (by dsimp only; omega) hbx2
            have hr63 := set_far (a := ⟨b, k, none⟩) (v := .slice (some ⟨ad0 s.2.length, 0, none⟩) m (cp0 s.2.length)) (by dsimp only; omega) (set_far (a := ⟨b, s.2.length, none⟩) (v := .slice (some ⟨ad0 k, 0, none⟩) m (cp0 k)) (by dsimp only; omega) ((HB2.out.cell (cell_old hr6)).trans hr6))
            generalize hW3 : (w'.setCell ⟨b, s.2.length, none⟩ (.slice (some ⟨ad0 k, 0, none⟩) m (cp0 k))).setCell ⟨b, k, none⟩ (.slice (some ⟨ad0 s.2.length, 0, none⟩) m (cp0 s.2.length)) = W3 at HT3 hbx3 hr63 ⊢
            have HK3 : Hid (Same (fun k => w.heap.size ≤ k ∨ k < base) W W3) := Lib.hid (by
              rw [← hW3]
              refine ((((Same.of_below hb1 (fun _ h _ => h)).trans (Same.of_below HB2.out (fun _ h _ => h))).setCell (.inl ?_) _).setCell (.inl ?_) _)
              · dsimp only; omega
              · dsimp only; omega)
            have hal3 : ∀ i, i < n → swapN ad0 s.2.length k i < w.heap.size := fun i hi => by
              unfold swapN; split
              · exact hal k hkn
              · split
                · exact hal _ hrn
                · exact hal i hi
            generalize swapN ad0 s.2.length k = ad1 at HT3 hal3
            generalize swapN cp0 s.2.length k = cp1 at HT3
            generalize hfw : swapR s.1 s.2.length k = fw at HT3
            have HFW := Lib.hid hfw
            clear hfw
            have t3 := HT3.out.top s.2.length hrn
            have r3 := HT3.out.row s.2.length c hrn hcm
            have HW3 := Lib.hid hW3
            clear c1 c2 f1 f2 hbx hbx2 htk htr hrk hr6 hbox1 hW3
            gi_wp2_with fail
            refine ⟨trivial, ?_⟩
            refine (callsIn_wide.2 (inverse_any _ _)).mono ?_
            rintro e w'' ⟨rfl, rfl⟩
            have hbx4 := keepA (.cells #[I (inv (fw s.2.length c))] 3) hbx3
            have hr64 := keepA (.cells #[I (inv (fw s.2.length c))] 3) hr63
            have t4 := keepA (.cells #[I (inv (fw s.2.length c))] 3) t3
            gi_wp2_with fail
            refine ⟨trivial, ?_⟩
            refine (callsIn_wide.2 (after_any _ _ _ _ _ _ rfl)).mono ?_
            rintro e w'' ⟨rfl, rfl⟩
            gi_wp2
            generalize hnv : inv (fw s.2.length c) = nv at hbx4 hr64 t4 ⊢
            have HNV := Lib.hid hnv
            obtain ⟨W0, hW0⟩ : ∃ W0, ((W3.alloc (.cells #[I nv] 3)).alloc (.cells #[.slice (some ⟨ad1 s.2.length, 0, none⟩) m (cp1 s.2.length)] 23)).alloc (.cells #[I c] 3) = W0 := ⟨_, rfl⟩
            have hsz0 : W0.heap.size = W3.heap.size + 3 := by rw [← hW0]; simp
            have hbel0 : Below W3.heap.size W3 W0 := by rw [← hW0]; exact (((Below.refl _ W3).alloc (Nat.le_refl _) _).alloc (by simp) _).alloc (by simp; omega) _
            have hcs := cell_three W3 (I nv) (.slice (some ⟨ad1 s.2.length, 0, none⟩) m (cp1 s.2.length)) (I c) 3 23 3
            rw [hW0] at hcs ⊢
            obtain ⟨hb8, hbr, hbc⟩ := hcs
            have hbx0 := (hbel0.cell (cell_old hbx3)).trans hbx3
            have hr60 := (hbel0.cell (cell_old hr63)).trans hr63
            have HT0' := Lib.hid (HT3.out.below hbel0)
            have hit : Iter Tryz.prog 219 #[.pointer (some ⟨W3.heap.size + 2, 0, none⟩), .pointer (some ⟨W3.heap.size + 1, 0, none⟩)] encPr (fun k => k = W3.heap.size + 2 ∨ k = W3.heap.size + 1) (fun _ => False) (fun pre A => ∀ k, c + pre.length ≤ k → k < m → A.cell? ⟨ad1 s.2.length, k, none⟩ = some (I (fw s.2.length k))) (afterL (fw s.2.length) m c) W0 :=
              after1_iter _ _ (ad1 s.2.length) m (cp1 s.2.length) c (fw s.2.length) W0 hbc hbr hm (Nat.le_of_lt hcm)
            clear hW0 hbx4 hr64 t4
            have hbW3 : w.heap.size < W3.heap.size := by have := cell_old hbx3; simpa using this
            have hWW3 : W.heap.size < W3.heap.size := by have := cell_old hr63; simpa using this
            refine range_law rfl (enters_of Tryz.func219 (by kernel_rfl) rfl) hit (fun _ => rfl) (fun k => k = ad1 s.2.length) (fun k h1 h2 => by have := hal3 _ hrn; omega) (fun k h => h.elim) (fun k h => by have := hal3 _ hrn; omega) (fun k h => by omega)
              (fun pre W' => pre.length ≤ m - c ∧ Tab base W' b n m ad1 cp1 (scaleP fw s.2.length c pre.length nv) ∧ Same (fun k => k ≠ ad1 s.2.length) W0 W') (fun _ _ => False) ?need ?keep (fun _ _ _ h _ => h) ?start ?a1 ?assign ?body ?done ?stop
            case assign =>
              intro l x W' K hK
              dsimp only [encPr]
              gi_wp2
              exact hK
            case need =>
              rintro s' A ⟨h1, h2, h3⟩ k' hk1' hk2'
              have := h2.row s.2.length k' hrn hk2'
              unfold scaleP at this
              rwa [if_neg (fun h => by omega)] at this
            case keep =>
              rintro s' A B ⟨h1, h2, h3⟩ hs
              refine ⟨h1, h2.same hs ⟨fun h => h, by omega, by omega⟩ (fun j hj => ⟨fun h => h, ?_, ?_⟩), h3.trans2 hs fun k' hk' _ => ⟨fun h => h, by omega, by omega⟩⟩
              · have := hal3 j hj; omega
              · have := hal3 j hj; omega
            case start => exact ⟨Nat.zero_le _, by rw [List.length_nil, scaleP_zero]; exact HT0'.out, Same.refl _ _⟩
            case stop =>
              intro c' W' hz h
              exact h.elim
            case body =>
              rintro l pre x W' hz ⟨h1, h2, h3⟩ hpre
              obtain ⟨ex, hlt2⟩ := prefix_el hpre
              subst ex
              have hne1 := hal3 s.2.length hrn
              have g2 := h3.cell (a := ⟨w.heap.size, 0, none⟩) (by dsimp only; omega) hbx0
              have g6 := h3.cell (a := ⟨W.heap.size, 0, none⟩) (by dsimp only; omega) hr60
              have g8 := h3.cell (a := ⟨W3.heap.size, 0, none⟩) (by dsimp only; omega) hb8
              have gt := h2.top s.2.length hrn
              have gf := h2.row s.2.length (c + pre.length) hrn hlt2
              have gz := h2.frow s.2.length (c + pre.length) hrn hlt2
              have H1 := Lib.hid h1
              have H2 := Lib.hid h2
              have H3 := Lib.hid h3
              have HP := Lib.hid (scaleP_succ fw s.2.length c pre.length nv)
              have hlen2 : (pre ++ [(c + pre.length, fw s.2.length (c + pre.length))]).length = pre.length + 1 := by simp
              clear h1 h2 h3 hpre hit
              generalize hkk : c + pre.length = kk at gf gz hlt2 HP hlen2 ⊢
              gi_wp2
              refine Rely.regionBIn _ _ _ _ (by kernel_rfl) [0,1,2,3,4,5,6,7] [] [8,9] (fun _ _ _ => True) (fun _ => True) (by kernel_rfl) (fun _ _ => trivial) ?_
              (refine Rely.Fx.loadIn ?rlc17 rfl (by kernel_rfl) rfl rfl rfl (Rely.Stab.refl _ _ _) (fun _ hb => ?rlh17) ?rlk17; (case rlh17 => (have hrl := (hb.cell (cell_old g2)).trans g2; go_simp; try rfl)); go_simp)
              (refine Rely.Fx.loadIn ?rlc18 rfl (by kernel_rfl) rfl rfl rfl (Rely.Stab.refl _ _ _) (fun _ hb => ?rlh18) ?rlk18; (case rlh18 => (have hrl := (hb.cell (cell_old g6)).trans g6; go_simp; try rfl)); go_simp)
              (refine Rely.Fx.runIn ?rlc19 rfl rfl rfl rfl (fun _ _ => ?rlh19) ?rlk19; (case rlh19 => (go_simp; try rfl)); go_simp)
              (refine Rely.Fx.loadIn ?rlc20 rfl (by kernel_rfl) rfl rfl rfl (Rely.Stab.refl _ _ _) (fun _ hb => ?rlh20) ?rlk20; (case rlh20 => (have hrl := (hb.cell (cell_old gt)).trans gt; go_simp; try rfl)); go_simp)
              (refine Rely.Fx.runIn ?rlc21 rfl rfl rfl rfl (fun _ _ => ?rlh21) ?rlk21; (case rlh21 => (go_simp; try rfl)); go_simp)
              (refine Rely.Fx.runIn ?rlc22 rfl rfl rfl rfl (fun _ _ => ?rlh22) ?rlk22; (case rlh22 => (go_simp; try rfl)); go_simp)
              (refine Rely.Fx.loadIn ?rlc23 rfl (by kernel_rfl) rfl rfl rfl (Rely.Stab.refl _ _ _) (fun _ hb => ?rlh23) ?rlk23; (case rlh23 => (have hrl := (hb.cell (cell_old g8)).trans g8; go_simp; try rfl)); go_simp)
              (refine Rely.Fx.callIn (o := ?rlo24) (I (mul (fw s.2.length kk) nv)) 80 ?rlho24 ?rlhd24 (by simp) (by kernel_rfl) ?rlh24 ?rlk24; (case rlho24 => (simp only [List.getElem?_toArray, List.getElem?_cons_succ, List.getElem?_cons_zero]; rfl)); (case rlhd24 => rfl))
              · intro w2 hb
                gi_wp2_with fail
                refine ⟨trivial, ?_⟩
                refine (CallsIn.inRound _ (callsIn_wide.2 (mul_any _ _ _))).mono ?_
                rintro e w3 ⟨rfl, rfl⟩
                gi_wp2
                exact ⟨_, rfl, rfl, hb, Rely.Stab.none _ _ _ _⟩
              go_simp
              refine Rely.Fx.done ?_
              refine Rely.Lt.done ?_
              intro w2 hb _
              have gf' := (hb.cell (cell_old gf)).trans gf
              have gz' := (hb.frozen (p := ⟨ad1 s.2.length, kk, none⟩) (cell_old gf)).trans gz
              have H2' := Lib.hid (H2.out.below hb)
              have H3' := Lib.hid (H3.out.trans (Same.of_below hb (fun _ h _ => h)))
              have HB' := Lib.hid hb
              clear hb
              (refine Rely.Tl.stepIn (o := ?rlo25) ?rlho25 ?rlk25; (case rlho25 => (simp only [List.getElem?_toArray, List.getElem?_cons_succ, List.getElem?_cons_zero]; rfl)))
              gi_wp2
              refine ⟨rfl, ?_⟩
              (refine Rely.Tl.lastIn (o := ?rlo26) ?rlho26 ?rlk26; (case rlho26 => (simp only [List.getElem?_toArray, List.getElem?_cons_succ, List.getElem?_cons_zero]; rfl)))
              gi_wp2
              refine ⟨rfl, ?_, ?_, ?_, ?_⟩
              · exact (Same.of_below HB'.out (fun _ h _ => h)).setCell (.inl (fun h => h rfl)) _
              · rw [hlen2]; omega
              · have := H2'.out.set s.2.length kk hrn (by omega) (mul (fw s.2.length kk) nv)
                rw [HP.out] at this
                rw [hlen2]; exact this
              · exact H3'.out.setCell (.inl (fun h => h rfl)) _
            case done =>
              rintro W4 hz ⟨h1, h2, h3⟩ hD
              have e0 : (afterL (fw s.2.length) m c).length = m - c := afterL_len _ _ _
              rw [e0] at h2
              have HD := Lib.hid hD
              have hne1 := hal3 s.2.length hrn
              have g2 := h3.cell (a := ⟨w.heap.size, 0, none⟩) (by dsimp only; omega) hbx0
              have g6 := h3.cell (a := ⟨W.heap.size, 0, none⟩) (by dsimp only; omega) hr60
              have H3 := Lib.hid h3
              generalize hf2 : scaleP fw s.2.length c (m - c) nv = f2 at h2
              have HF2 := Lib.hid hf2
              have H2 := Lib.hid h2
              have HSZ0 := Lib.hid hsz0
              clear h1 h2 h3 hD hf2 hit e0 hsz0
              gi_wp2
              gi_loopw [84] (fun v wr => ∃ q : Nat, v = I q ∧ q ≤ n ∧ Hid (Tab base wr b n m ad1 cp1 (clrA f2 s.2.length c m q)) ∧ Hid (Same (fun k => ∀ i, i < n → k ≠ ad1 i) W4 wr)) (fun v _ => n - (intOf v).toNat)
              case atStart => exact ⟨0, rfl, Nat.zero_le _, Lib.hid (H2.out.congr fun i j _ _ => by unfold clrA; rw [if_neg (by omega)]), Lib.hid (Same.refl _ _)⟩
              case round =>
                obtain ⟨q, rfl, hq, hqt, hqs⟩ := hrel
                have q2 := hqs.out.cell (a := ⟨w.heap.size, 0, none⟩) (fun i hi e => by have := hal3 i hi; dsimp only at e; omega) g2
                have q6 := hqs.out.cell (a := ⟨W.heap.size, 0, none⟩) (fun i hi e => by have := hal3 i hi; dsimp only at e; omega) g6
                by_cases hlq : q < n
                · by_cases hqr : q = s.2.length
                  · have gq : ((q : Int) != (s.2.length : Int)) = false := by rw [bne_eq_false_iff_eq]; omega
                    have gq2 : (q != s.2.length) = false := by rw [bne_eq_false_iff_eq]; exact hqr
                    have hqr2 : q ≤ s.2.length ∧ s.2.length ≤ q := by omega
                    clear hqr
                    gi_wp2
                    go_roundw
                    case rel => exact ⟨q + 1, by go_num, by omega, Lib.hid (hqt.out.congr fun i j _ _ => clrA_skip f2 c m (by omega) i j), hqs⟩
                    case measure => simp [intOf]; omega
                  · have gq : ((q : Int) != (s.2.length : Int)) = true := bne_iff_ne.2 (by omega)
                    have gq2 : (q != s.2.length) = true := bne_iff_ne.2 hqr
                    gi_wp2_with fail
                    refine ⟨trivial, ?_⟩
                    refine (callsIn_wide.2 (clear_any b n m ct ad1 cp1 _ q s.2.length c base wr hqt.out hlq hrn hqr hcm hn hm)).mono ?_
                    rintro e w5 ⟨⟨v5, rfl⟩, ht5, hs5⟩
                    have HT5 := Lib.hid ht5
                    have HS5 := Lib.hid hs5
                    clear ht5 hs5
                    gi_wp2
                    go_roundw
                    case rel => exact ⟨q + 1, by go_num, by omega, Lib.hid (HT5.out.congr fun i j hi hj => clrA_step f2 hcm hqr i j hj), Lib.hid (hqs.out.trans2 HS5.out fun k' _ hk' => hk' q hlq)⟩
                    case measure => simp [intOf]; omega
                · obtain rfl : q = n := by omega
                  have HKr : Hid (Same (fun k => w.heap.size ≤ k ∨ k < base) W wr) := Lib.hid ((((HK3.out.trans (Same.of_below hbel0 (fun _ h _ => h))).trans2 H3.out (fun k' _ hk' e => by have := HT3.out.alt s.2.length hrn; omega)).trans2 hqs.out (fun k' _ hk' i hi e => by have := HT3.out.alt i hi; have := hal3 i hi; omega)))
                  have HPr : Hid (OwnOf 3 1 encI wr w.heap.size (.slice A4 s.2.length c4) (s.2.map fun p : Nat => (p : Int))) := Lib.hid (HP0.out.kept fun k' hk' => HKr.out.block k' (HP0.out.base_le k' hk').2 (.inl (HP0.out.base_le k' hk').1))
                  have HDr : Hid (wr.heap[W0.heap.size]? = some (.deferred (some []))) := Lib.hid ((hqs.out.block _ (Array.getElem?_eq_some_iff.1 HD.out).1 (fun i hi e => by have := hal3 i hi; have := HSZ0.out; omega)).trans HD.out)
                  have hl9 : Hid (((s.2.map fun p : Nat => (p : Int)).length + 1) * 8 ≤ 140737488355328) := Lib.hid (by rw [List.length_map]; omega)
                  have hwr : Hid (w.heap.size ≤ wr.heap.size) := Lib.hid (by have := HKr.out.size; omega)
                  gi_wp2_with (gi_at_builtin; refine app_oneIn (w0 := wr) w.heap.size rfl _ _ 23 3 (I 0) 1 8 rfl Tryz.underlying23 info_int rfl (by decide) (by decide) encI _ _ (c : Int) (by rfl) #[I c] rfl rfl (by intro u hu; simp at hu; subst hu; rfl) _ (by rfl) rfl HPr.out (Below.refl _ _) hwr.out hl9.out ?_; intro v1 w5 ho5 hb5 hkeep5 hsz5 hat5)
                  refine ⟨⟨c + 1, W0.heap.size :: ds, v1, by omega, Lib.hid ?_, ⟨rfl, rfl, rfl, rfl, rfl, rfl, by go_num, rfl⟩⟩, ?_⟩
                  · have hst' : redTo q m f (c + 1) = (clrA f2 s.2.length c m q, s.2 ++ [c]) := by
                      show redStep q m (redTo q m f c) c = _
                      rw [HS.out]
                      unfold redStep
                      have hfz : fz s.1 c q s.2.length = k := fz_some hk1 hkn hkz.out HZ.out
                      rw [if_neg (by rw [hfz]; omega), hfz, HFW.out, HNV.out, HF2.out]
                    have hown : ∀ j, w.heap.size ≤ j → (∀ k', Value.ownBlock (.slice A4 s.2.length c4) = some k' → j ≠ k') → j < wr.heap.size → w5.heap[j]? = wr.heap[j]? := fun j _ h2 h3 => hkeep5 j h3 (fun e => h2 j e rfl)
                    have hlt5 : ∀ k', Value.ownBlock (.slice A4 s.2.length c4) = some k' → w.heap.size ≤ k' ∧ k' < W.heap.size := fun k' hk' => HP0.out.base_le k' hk'
                    have hbxne := hst.out.boxne
                    have hWr : W.heap.size ≤ wr.heap.size := HKr.out.size
                    have hst0 := hst.out
                    have hWlt : W.heap.size < W3.heap.size := hWW3
                    have hsz0' := HSZ0.out
                    have hW4 : W0.heap.size < wr.heap.size := (Array.getElem?_eq_some_iff.1 HDr.out).1
                    refine ⟨⟨ad1, cp1, ?_, hal3⟩, ?_, ?_, by omega, ?_, ?_, ?_⟩
                    · rw [hst']
                      exact hqt.out.same (Same.of_below hb5 (fun _ _ h => h) (K := fun k' => k' < w.heap.size)) hbl.2 hal3
                    · rw [hst', List.map_append]; exact ho5
                    · exact hst0.low.trans ((HKr.out.below (n := base) (fun k' hk' => .inr hk') (by omega)).trans (hb5.mono (by omega)))
                    · exact (World.cell?_of_block (w := wr) (hkeep5 w.heap.size (by omega) hst0.boxne)).trans q2
                    · rcases hat5 with e | ⟨k', e, hk'⟩
                      · rw [e]; exact hst0.boxne
                      · rw [e]; intro q; injection q with q; omega
                    · refine ⟨List.nodup_cons.2 ⟨fun hd => ?_, hst0.marks.1⟩, fun d hd => ?_⟩
                      · have := (Array.getElem?_eq_some_iff.1 (hst0.marks.2 _ hd).2).1; omega
                      · rcases List.mem_cons.1 hd with rfl | hd
                        · refine ⟨by omega, (hkeep5 _ hW4 (fun e => ?_)).trans HDr.out⟩
                          have := (hlt5 _ e).2; omega
                        · have h1 := hst0.marks.2 d hd
                          have h2 := (Array.getElem?_eq_some_iff.1 h1.2).1
                          refine ⟨h1.1, (hkeep5 _ (by omega) (fun e => own_no_mark HP0.out hst0.marks _ e hd)).trans ((HKr.out.block d h2 (.inl (by omega))).trans h1.2)⟩
                  · simp [intOf]; omega
        · obtain rfl : k = n := by omega
          gi_wp2
          refine ⟨⟨c + 1, by omega, ds, .slice A4 s.2.length c4, Lib.hid ?_, ⟨rfl, rfl, rfl, rfl, rfl, rfl, by go_num, rfl⟩⟩, ?_⟩
          · refine hst.out.skip hb1 ?_
            show redStep k m (redTo k m f c) c = redTo k m f c
            rw [HS.out]
            unfold redStep
            rw [if_pos (by rw [fz_none hkz.out]; exact Nat.le_refl _)]
          · simp [intOf]; omega
    · obtain rfl : c = many := by omega
      gi_wp2
      obtain ⟨ad', cp', ht', hal⟩ := hst.out.tab
      refine leaves_marks _ ds W hst.out.marks fun W' hW' => ?_
      have hlow : ∀ k, k < w.heap.size + 1 → k ∉ ds := fun k hk hd => by have := (hst.out.marks.2 k hd).1; omega
      refine ⟨u4, by simp [results, Tryz.results180, go_sem], u4, rfl, ?_, ⟨ad', cp', ?_⟩, ?_⟩
      · exact hst.out.piv.kept fun k hk => hW'.block k (hst.out.piv.base_le k hk).2 (own_no_mark hst.out.piv hst.out.marks k hk)
      · exact ht'.same hW' (hlow _ (by omega)) fun i hi => hlow _ (by have := hal i hi; omega)
      · exact hst.out.low.trans (hW'.below (fun k hk => hlow k (by omega)) (by have := hst.out.big; omega))

end Go.Proofs.YtgacdmkhgllceaaGreatDoor

