import Derived.Test.YtgacdmkhgllceaaGreatDoorZSlices1
import Derived.Test.YtgacdmkhgllceaaGreatDoorZApp
namespace Go.Proofs.YtgacdmkhgllceaaGreatDoor
open Go.RowKit Go.Shelf

theorem nan_cmp (n : Int) (w : World) : Calls Tryz.prog 226 #[I n] w fun e w' => e = .returned (.bool false) ∧ w = w' := by
  go_enter Tryz.func226, Tryz.ntmps226
  go_wp2
  go_ret
  exact ⟨rfl, rfl⟩
theorem nan_slices (n : Int) (w : World) : Calls Tryz.prog 217 #[I n] w fun e w' => e = .returned (.bool false) ∧ w = w' := by
  go_enter Tryz.func217, Tryz.ntmps217
  go_wp2
  go_ret
  exact ⟨rfl, rfl⟩
theorem less_any (a b : Int) (w : World) : Calls Tryz.prog 216 #[I a, I b] w fun e w' => e = .returned (.bool (decide (a < b))) ∧ w = w' := by
  go_enter Tryz.func216, Tryz.ntmps216
  go_wp2_with fail
  refine (nan_cmp a _).mono ?_
  rintro e w' ⟨rfl, rfl⟩
  go_wp2
  go_ret
  exact ⟨rfl, rfl⟩

/-- Is a number in a list? -/
def hasI (xs : List Int) (t : Int) : Bool := xs.contains t
/-- The place at which a number is, if it is there. -/
def FoundAt (xs : List Int) (t : Int) (i : Nat) : Prop := i ≤ xs.length ∧ (hasI xs t = true ↔ ∃ hl : i < xs.length, xs[i] = t)

/-- Strictly increasing. -/
def Incr (xs : List Int) : Prop := ∀ i j, (hi : i < j) → (hj : j < xs.length) → xs[i] < xs[j]

/-- What holds of the bounds of a binary search. -/
structure BS (xs : List Int) (t : Int) (lo hi : Nat) : Prop where
  le : lo ≤ hi
  top : hi ≤ xs.length
  low : ∀ j, (h : j < lo) → (hl : j < xs.length) → xs[j] < t
  high : ∀ j, hi ≤ j → (hl : j < xs.length) → t ≤ xs[j]

theorem BS.start (xs : List Int) (t : Int) : BS xs t 0 xs.length := ⟨Nat.zero_le _, Nat.le_refl _, fun j h => by omega, fun j h hl => by omega⟩
theorem BS.right {xs : List Int} {t : Int} {lo hi : Nat} (hs : Incr xs) (h : BS xs t lo hi) (m : Nat) (h2 : m < hi) (hm : m < xs.length) (hx : xs[m] < t) : BS xs t (m + 1) hi :=
  ⟨by omega, h.top, fun j hj hl => by
    by_cases e : j = m
    · subst e; exact hx
    · have := hs j m (by omega) hm; omega, h.high⟩
theorem BS.left {xs : List Int} {t : Int} {lo hi : Nat} (hs : Incr xs) (h : BS xs t lo hi) (m : Nat) (h1 : lo ≤ m) (hm : m < xs.length) (hx : ¬ xs[m] < t) : BS xs t lo m :=
  ⟨h1, by omega, h.low, fun j hj hl => by
    by_cases e : j = m
    · subst e; omega
    · have := hs m j (by omega) hl; omega⟩
theorem BS.found {xs : List Int} {t : Int} {lo : Nat} (hs : Incr xs) (h : BS xs t lo lo) : hasI xs t = true ↔ ∃ hl : lo < xs.length, xs[lo] = t := by
  unfold hasI
  rw [List.contains_iff_mem]
  constructor
  · intro hm
    obtain ⟨j, hj, e⟩ := List.getElem_of_mem hm
    have h1 : ¬ j < lo := fun hlt => by have := h.low j hlt hj; omega
    have hl : lo < xs.length := by omega
    refine ⟨hl, ?_⟩
    by_cases e2 : j = lo
    · subst e2; exact e
    · have h3 := h.high lo (Nat.le_refl _) hl
      have := hs lo j (by omega) hj
      exfalso; omega
  · rintro ⟨hl, e⟩
    rw [← e]; exact List.getElem_mem _

theorem BS.uniq {xs : List Int} {t : Int} {a b : Nat} (h : BS xs t a a) (k : BS xs t b b) : a = b := by
  have one : ∀ {a b : Nat}, BS xs t a a → BS xs t b b → ¬ a < b := fun {a b} h k hlt => by
    have hb := k.top
    have h1 := h.high a (Nat.le_refl _) (by omega)
    have h2 := k.low a hlt (by omega)
    omega
  have := one h k
  have := one k h
  omega
/-- The place at which a number is looked for. -/
noncomputable def bsAt (xs : List Int) (t : Int) : Nat := open Classical in if h : ∃ i, BS xs t i i then Classical.choose h else 0
theorem bsAt_eq {xs : List Int} {t : Int} {i : Nat} (h : BS xs t i i) : bsAt xs t = i := by
  unfold bsAt
  rw [dif_pos ⟨i, h⟩]
  exact (Classical.choose_spec (⟨i, h⟩ : ∃ i, BS xs t i i)).uniq h

set_option maxHeartbeats 1000000 in
theorem bsearch_any (v : Value) (xs : List Int) (t : Int) (w : World) (hv : Ints w v xs) (hs : Incr xs) :
    Calls Tryz.prog 198 #[v, I t] w fun e w' => e = .returned (.tuple #[I (bsAt xs t), .bool (hasI xs t)]) ∧ w = w' := by
  obtain ⟨A, c, rfl, hm⟩ := hv.shape
  have HV := Lib.hid hv
  have HS := Lib.hid hs
  clear hv hs
  go_enter Tryz.func198, Tryz.ntmps198
  go_wp2
  go_loop [7, 8] (fun a b => ∃ lo hi : Nat, a = I lo ∧ b = I hi ∧ lo ≤ hi ∧ hi ≤ xs.length ∧ Hid (BS xs t lo hi)) (fun a b => (intOf b).toNat - (intOf a).toNat)
  case atStart => exact ⟨0, xs.length, rfl, rfl, Nat.zero_le _, Nat.le_refl _, Lib.hid (BS.start xs t)⟩
  case round =>
    obtain ⟨lo, hi, rfl, rfl, h1, h2, hb⟩ := hrel
    by_cases hlt : lo < hi
    · have hml : (lo + hi) / 2 < xs.length := by omega
      obtain ⟨ad, rfl, hc⟩ := HV.out.at ((lo + hi) / 2) hml
      go_wp2_with fail
      refine (less_any _ _ _).mono ?_
      rintro e w' ⟨rfl, rfl⟩
      by_cases hx : xs[(lo + hi) / 2] < t
      · have g : decide (xs[(lo + hi) / 2] < t) = true := decide_eq_true hx
        have HN := Lib.hid (hb.out.right HS.out ((lo + hi) / 2) (by omega) hml hx)
        clear hx
        go_wp2
        go_round
        case rel => exact ⟨(lo + hi) / 2 + 1, hi, by go_num, rfl, by omega, by omega, HN⟩
        case measure => simp [intOf]; omega
      · have g : decide (xs[(lo + hi) / 2] < t) = false := decide_eq_false hx
        have HN := Lib.hid (hb.out.left HS.out ((lo + hi) / 2) (by omega) hml hx)
        clear hx
        go_wp2
        go_round
        case rel => exact ⟨lo, (lo + hi) / 2, rfl, by go_num, by omega, by omega, HN⟩
        case measure => simp [intOf]; omega
    · obtain rfl : lo = hi := by omega
      have HF := Lib.hid (BS.found HS.out hb.out)
      have HB := Lib.hid (congrArg (fun k : Nat => I k) (bsAt_eq hb.out).symm)
      by_cases hl : lo < xs.length
      · obtain ⟨ad, rfl, hc⟩ := HV.out.at lo hl
        by_cases hx : xs[lo] = t
        · have g : (xs[lo] == t) = true := beq_iff_eq.2 hx
          have E : Hid (hasI xs t = true) := Lib.hid (HF.out.2 ⟨hl, hx⟩)
          clear hx
          go_wp2
          go_ret2
          exact ⟨ret_two HB.out (congrArg Value.bool E.out.symm), rfl⟩
        · have g : (xs[lo] == t) = false := beq_eq_false_iff_ne.2 hx
          have E : Hid (hasI xs t = false) := Lib.hid (by
            cases h : hasI xs t
            · rfl
            · obtain ⟨_, h3⟩ := HF.out.1 h; exact absurd h3 hx)
          clear hx
          go_wp2_with fail
          refine (nan_slices _ _).mono ?_
          rintro e w' ⟨rfl, rfl⟩
          go_wp2
          go_ret2
          exact ⟨ret_two HB.out (congrArg Value.bool E.out.symm), rfl⟩
      · have E : Hid (hasI xs t = false) := Lib.hid (by
          cases h : hasI xs t
          · rfl
          · obtain ⟨h4, h3⟩ := HF.out.1 h; exact absurd h4 hl)
        go_wp2
        go_ret2
        exact ⟨ret_two HB.out (congrArg Value.bool E.out.symm), rfl⟩

end Go.Proofs.YtgacdmkhgllceaaGreatDoor

namespace Go.Proofs.YtgacdmkhgllceaaGreatDoor
open Go.RowKit Go.Shelf

theorem info_int : (Tryz.prog.info? 3).map (fun i => (i.zero, i.size, i.bytes)) = some (some (I 0), 1, 8) := by kernel_rfl

/-- A row with nothing in it yet, and room. -/
theorem grow_any (n : Nat) (w : World) (hn : n ≤ 1000000) :
    Calls Tryz.prog 158 #[.slice none 0 0, I n] w fun e w' => ∃ v, e = .returned v ∧ OwnOf 3 1 encI w' w.heap.size v [] ∧ Below w.heap.size w w' := by
  by_cases h : n = 0
  · subst h
    go_enter Tryz.func158, Tryz.ntmps158
    go_wp2
    go_ret
    exact ⟨_, rfl, OwnOf.nil _ _ _ _ _, Below.refl _ _⟩
  · have h' : 0 < n := by omega
    clear h
    go_enter Tryz.func158, Tryz.ntmps158
    have hb : Tryz.t3.bytes = 8 := by kernel_rfl
    have HB := Lib.hid hb
    clear hb
    go_wp2_with fail
    all_goals first
      | (have h1 : (281474976710656 : Int) < (n : Int) * (Tryz.t3.bytes : Int) := by assumption
         rw [HB.out] at h1
         exfalso; omega)
      | (have h1 : 281474976710656 < Builtin.nextslicecap n 0 * Tryz.t3.bytes := by assumption
         rw [HB.out] at h1
         unfold Builtin.nextslicecap at h1
         rw [if_pos (by omega)] at h1
         exfalso; omega)
      | skip
    have hge := grownCap_ge w n 0 3
    have hcm := grownCap_le_maxLen w n 0 3 (by unfold maxLen; omega)
    go_ret
    refine ⟨_, rfl, ⟨rfl, .inr ⟨w.heap.size, _, _, rfl, Nat.le_refl _, World.alloc_heap_new w _, Nat.zero_le _, hcm, ?_, by simp⟩⟩, ((Below.refl _ w).alloc (Nat.le_refl _) _).drew⟩
    rw [Array.size_append, size_zeroCells, size_zeroCells]
    show n * 1 + (grownCap w n 0 3 - n) * 1 = grownCap w n 0 3 * 1
    omega

/-- How many elements all lists have together. -/
def totLen (xss : List (List Int)) : Nat := xss.flatten.length
theorem sum_len_take {xss : List (List Int)} {k : Nat} (h : k < xss.length) : totLen (xss.take (k + 1)) = totLen (xss.take k) + xss[k].length := by
  unfold totLen
  rw [List.take_succ_eq_append_getElem h, List.flatten_append, List.length_append]; simp
theorem flat_take {xss : List (List Int)} {k : Nat} (h : k < xss.length) : (xss.take (k + 1)).flatten = (xss.take k).flatten ++ xss[k] := by
  rw [List.take_succ_eq_append_getElem h, List.flatten_append]; simp
theorem flat_take_le {xss : List (List Int)} (k : Nat) : totLen (xss.take k) ≤ totLen xss := by
  unfold totLen
  conv => rhs; rw [← List.take_append_drop k xss]
  rw [List.flatten_append, List.length_append]; omega

set_option maxHeartbeats 1000000 in
theorem concat_any (v : Value) (xss : List (List Int)) (w : World) (hv : Rows2 w v xss) (hl : totLen xss ≤ 1000000) :
    Calls Tryz.prog 109 #[v] w fun e w' => ∃ u, e = .returned u ∧ OwnOf 3 1 encI w' w.heap.size u xss.flatten ∧ Below w.heap.size w w' := by
  obtain ⟨A, c, rfl, hm⟩ := hv.shape
  have HV := Lib.hid hv
  have HL := Lib.hid hl
  clear hv hl
  go_enter Tryz.func109, Tryz.ntmps109
  go_wp2
  go_loop [3, 11] (fun s j => ∃ k : Nat, k ≤ xss.length ∧ j = I k ∧ s = I (totLen (xss.take k) : Nat)) (fun _ j => xss.length - (intOf j).toNat)
  case atStart => exact ⟨0, Nat.zero_le _, rfl, rfl⟩
  case round =>
    obtain ⟨k, hk, rfl, rfl⟩ := hrel
    by_cases hlt : k < xss.length
    · obtain ⟨ad, u, rfl, hc, hu⟩ := HV.out.at k hlt
      obtain ⟨A1, c1, rfl, hm1⟩ := hu.shape
      have N := Lib.hid (sum_len_take hlt)
      have hle := flat_take_le (xss := xss) (k + 1)
      have hl := HL.out
      rw [N.out] at hle
      clear hu
      generalize totLen (xss.take k) = s at *
      have hn : ¬ ((s : Int) + (xss[k].length : Int) < 0) := by omega
      go_wp2
      go_round
      case rel => exact ⟨k + 1, by omega, by go_num, by rw [N.out]; go_num⟩
      case measure => simp [intOf]; omega
    · have E : Hid (totLen (xss.take k) = totLen xss) := Lib.hid (by rw [List.take_of_length_le (by omega)])
      rw [E.out]
      go_wp2_with fail
      refine (grow_any (totLen xss) _ HL.out).mono ?_
      rintro e w1 ⟨u, rfl, hown, hb⟩
      obtain ⟨A0, c0, rfl⟩ := hown.shape
      have HO := Lib.hid hown
      have HB := Lib.hid hb
      clear hown hb
      go_wp2
      go_loopw [6, 27] (fun s j wr => ∃ q : Nat, q ≤ xss.length ∧ j = I q ∧ Hid (OwnOf 3 1 encI wr w.heap.size s (xss.take q).flatten) ∧ Hid (Below w.heap.size w wr)) (fun _ j _ => xss.length - (intOf j).toNat)
      case atStart => exact ⟨0, Nat.zero_le _, rfl, HO, HB⟩
      case round =>
        obtain ⟨q, hq, rfl, hown, hb⟩ := hrel
        by_cases hlt2 : q < xss.length
        · obtain ⟨ad, u, rfl, hc, hu⟩ := (HV.out.below hb.out).at q hlt2
          have HU := Lib.hid hu
          have N := Lib.hid (flat_take hlt2)
          have NL := Lib.hid (sum_len_take hlt2)
          have hle := flat_take_le (xss := xss) (q + 1)
          have hl := HL.out
          rw [NL.out] at hle
          have B9 : Hid (((xss.take q).flatten.length + xss[q].length) * 8 ≤ 140737488355328) := Lib.hid (by unfold totLen at hle hl; omega)
          clear hu hle hl
          go_wp2_with (at_builtin; refine app_ints w.heap.size rfl _ _ 23 3 rfl Tryz.underlying23 info_int _ _ rfl _ _ rfl HU.out hown.out hb.out hb.out.size B9.out ?_; intro v1 w1 ho1 hb1 _ _ _)
          go_roundw
          case rel => exact ⟨q + 1, by omega, by go_num, Lib.hid (by rw [N.out]; exact ho1), Lib.hid hb1⟩
          case measure => simp [intOf]; omega
        · have E2 : Hid ((xss.take q).flatten = xss.flatten) := Lib.hid (by rw [List.take_of_length_le (by omega)])
          go_wp2
          go_ret
          exact ⟨_, rfl, by rw [← E2.out]; exact hown.out, hb.out⟩

end Go.Proofs.YtgacdmkhgllceaaGreatDoor

namespace Go.Proofs.YtgacdmkhgllceaaGreatDoor
open Go.RowKit Go.Shelf

/-- Two lists laid side by side. -/
theorem Rows2.new2 (w : World) (u v : Value) (xs ys : List Int) (b : Nat) (t : TypeId) (hb : b = w.heap.size) (hu : Ints w u xs) (hv : Ints w v ys) : Rows2 (w.alloc (.cells #[u, v] t)) (.slice (some ⟨b, 0, none⟩) 2 2) [xs, ys] := by
  subst hb
  refine ⟨_, _, rfl, ⟨Nat.le_refl _, fun h => by cases h⟩, by simp, fun i hi => ⟨_, rfl, ?_⟩⟩
  have : (⟨w.heap.size, 0, none⟩ : Addr).add (i * 1) = ⟨w.heap.size, i, none⟩ := by unfold Addr.add; split <;> simp_all
  rw [this]
  have hi2 : i = 0 ∨ i = 1 := by simp at hi; omega
  rcases hi2 with rfl | rfl
  · exact ⟨u, by simp, hu.alloc _⟩
  · exact ⟨v, by simp, hv.alloc _⟩

/-- Shares as cells. -/
def encS (s : Int × Int) : List Value := [I s.1, I s.2]
theorem encS_one (s : Int × Int) : ∀ u ∈ encS s, u.oneCell' = true := by intro u hu; simp [encS] at hu; rcases hu with rfl | rfl <;> rfl
def ShareE (w : World) (a : Addr) (s : Int × Int) : Prop := w.cell? a = some (I s.1) ∧ w.cell? ⟨a.block, a.off + 1, none⟩ = some (I s.2)
/-- A list of shares: rows with values. -/
def Shares (w : World) (v : Value) (xs : List (Int × Int)) : Prop := Sl 2 ShareE w v xs
theorem ShareE.stays : Stays ShareE := fun _ _ _ _ h e => ⟨(h _ (cell_old e.1)).trans e.1, (h _ (cell_old e.2)).trans e.2⟩
theorem Shares.below {w w' : World} {v : Value} {xs : List (Int × Int)} (e : Shares w v xs) (h : Below w.heap.size w w') : Shares w' v xs := Sl.stays ShareE.stays (Below.old h) e
theorem OwnOf.shares {e : Nat} {W : World} {base : Nat} {v : Value} {xs : List (Int × Int)} (h : OwnOf e 2 encS W base v xs) (hm : xs.length ≤ 140737488355328) : Shares W v xs :=
  h.sl (fun _ => rfl) ShareE (fun a x hs hc => by
    have h0 := hc 0 (I x.1) rfl
    have h1 := hc 1 (I x.2) rfl
    obtain ⟨b, o, s⟩ := a
    simp at hs; subst hs
    exact ⟨h0, h1⟩) hm

theorem info_share : (Tryz.prog.info? 81).map (fun i => (i.zero, i.size, i.bytes)) = some (some (.agg #[I 0, I 0]), 2, 16) := by kernel_rfl

/-- The error of a dealing. -/
def dealtErr (rows : List (List Int)) (owners : List Int) (secret : Int) (random : List Int) : Int :=
  if progErr rows owners ≠ 0 then progErr rows owners else if numsQ [secret] = false then 1 else if numsQ random = false then 1 else if random.length + 1 ≠ cols rows then 1 else 0
/-- The shares, and the commitments. -/
def dealt (rows : List (List Int)) (s : List Int) : List (Int × Int) := (rows.zipIdx).map fun x => ((x.2 : Int), dot x.1 s)
noncomputable def commitsOf (s : List Int) : List Int := s.map (powP 4)

theorem cols_pos {rows : List (List Int)} {owners : List Int} (h : progErr rows owners = 0) : 1 ≤ cols rows ∧ cols rows ≤ 64 := by
  obtain ⟨h1, h2, h3, h4⟩ := progErr_zero h
  by_cases h0 : rows.length = 0
  · unfold cols; rw [if_pos h0]; omega
  · obtain ⟨h5, h6, _⟩ := h4 0 (by omega)
    have := h2 rows[0] (List.getElem_mem _)
    omega

theorem dealt_take {rows : List (List Int)} {s : List Int} {k : Nat} (h : k < rows.length) : (dealt rows s).take (k + 1) = (dealt rows s).take k ++ [((k : Int), dot rows[k] s)] := by
  rw [List.take_succ_eq_append_getElem (by simp [dealt, h])]
  simp [dealt]

set_option maxRecDepth 100000 in
set_option maxHeartbeats 2000000 in
theorem deal_any (vr vo vx : Value) (rows : List (List Int)) (owners : List Int) (secret : Int) (random : List Int) (w : World) (hr : Rows2 w vr rows) (ho : Ints w vo owners) (hx : Ints w vx random) (h0 : dealtErr rows owners secret random = 0) :
    Calls Tryz.prog 44 #[.agg #[vr, vo], I secret, vx] w fun e w' => ∃ vl vc, e = .returned (.tuple #[vl, vc, I 0]) ∧ Shares w' vl (dealt rows (secret :: random)) ∧ Ints w' vc (commitsOf (secret :: random)) ∧ Below w.heap.size w w' := by
  have q1 : progErr rows owners = 0 := by
    unfold dealtErr at h0; by_cases q : progErr rows owners = 0; exact q; rw [if_pos q] at h0; exact h0
  have q2 : numsQ [secret] = true := by
    unfold dealtErr at h0; rw [if_neg (by rw [q1]; decide)] at h0
    cases q : numsQ [secret]; rw [q, if_pos rfl] at h0; exact absurd h0 (by decide); rfl
  have q3 : numsQ random = true := by
    unfold dealtErr at h0; rw [if_neg (by rw [q1]; decide), if_neg (by rw [q2]; decide)] at h0
    cases q : numsQ random; rw [q, if_pos rfl] at h0; exact absurd h0 (by decide); rfl
  have q4 : random.length + 1 = cols rows := by
    unfold dealtErr at h0; rw [if_neg (by rw [q1]; decide), if_neg (by rw [q2]; decide), if_neg (by rw [q3]; decide)] at h0
    by_cases q : random.length + 1 = cols rows; exact q; rw [if_pos q] at h0; exact absurd h0 (by decide)
  obtain ⟨A, ca, rfl, hma⟩ := hr.shape
  obtain ⟨C, cc, rfl, hmc⟩ := hx.shape
  have hcp := cols_pos q1
  have g1 : (progErr rows owners != 0) = false := by rw [q1]; rfl
  have hrow := (progErr_zero q1).2.2.2
  have h64 := (progErr_zero q1).1
  have HROW := Lib.hid hrow
  have Q1 := Lib.hid q1
  have Q2 := Lib.hid q2
  have Q3 := Lib.hid q3
  have Q4 := Lib.hid q4
  have HCP := Lib.hid hcp
  have H64 := Lib.hid h64
  have hra := hr.alloc (.cells #[.slice A rows.length ca, vo] 25)
  have hoa := ho.alloc (.cells #[.slice A rows.length ca, vo] 25)
  have hxa := hx.alloc (.cells #[.slice A rows.length ca, vo] 25)
  have BW := (Below.refl w.heap.size w).alloc (Nat.le_refl _) (.cells #[.slice A rows.length ca, vo] 25)
  have HB := Lib.hid BW
  have HR := Lib.hid hra
  have HO := Lib.hid hoa
  have HX := Lib.hid hxa
  clear BW hr ho hx hra hoa hxa q1 q2 q3 q4 h0 hcp hrow h64
  go_enter Tryz.func44, Tryz.ntmps44
  go_wp2_with fail
  refine (progCheck_any _ _ rows owners _ HR.out HO.out).mono ?_
  rintro e w1 ⟨rfl, hb1⟩
  obtain ⟨hc1, hf1⟩ := bcell hb1
  have HB1 := Lib.hid (below_step HB.out hb1)
  have HR1 := Lib.hid (HR.out.below hb1)
  have HX1 := Lib.hid (HX.out.below hb1)
  have P1 := Lib.hid (keep (a := ⟨w.heap.size, 0, none⟩) (v := .slice A rows.length ca) hb1 (by simp))
  have hs1 : w.heap.size < w1.heap.size := by have := hb1.size; simp at this; omega
  clear hb1
  go_wp2_with fail
  refine (numbers_any _ [secret] _ (Ints.new _ [secret] _ 1 3 #[I secret] (by simp) rfl rfl (by simp))).mono ?_
  rintro e w' ⟨rfl, rfl⟩
  rw [Q2.out]
  have HX2 := Lib.hid (HX1.out.alloc (.cells #[I secret] 3))
  have HR2 := Lib.hid (HR1.out.alloc (.cells #[I secret] 3))
  go_wp2_with fail
  refine (numbers_any _ random _ HX2.out).mono ?_
  rintro e w' ⟨rfl, rfl⟩
  rw [Q3.out]
  go_wp2_with fail
  refine (columns_any _ _ rows _ HR2.out).mono ?_
  rintro e w2 ⟨rfl, hb2⟩
  obtain ⟨hc2, hf2⟩ := bcell hb2
  have HB2 := Lib.hid (below_step (HB1.out.alloc (by have := HB1.out.size; omega) _) hb2)
  have HR3 := Lib.hid (HR2.out.below hb2)
  have HX3 := Lib.hid (HX2.out.below hb2)
  have P2 := Lib.hid (keep hb2 (keepA (.cells #[I secret] 3) P1.out))
  have hs2 : w1.heap.size < w2.heap.size := by have := hb2.size; simp at this; omega
  have hs2' : w.heap.size < w2.heap.size := by omega
  clear hb2
  have g2 : ((random.length : Int) != (cols rows : Int) - 1) = false := by rw [bne_eq_false_iff_eq]; have := Q4.out; omega
  have hcp1 : (1 : Int) ≤ cols rows := by have := HCP.out; omega
  have hcp2 : (cols rows : Int) ≤ 64 := by have := HCP.out; omega
  go_wp2_with fail
  have HX4 := Lib.hid (HX3.out.alloc (.cells #[I secret] 3))
  have HS4 := Lib.hid (Ints.new w2 [secret] _ 1 3 #[I secret] rfl rfl rfl (by simp))
  have HT : Hid (totLen [[secret], random] ≤ 1000000 ∧ [[secret], random].flatten = secret :: random ∧ random.length ≤ 63) := Lib.hid ⟨by unfold totLen; have := Q4.out; have := HCP.out; simp; omega, by simp, by have := Q4.out; have := HCP.out; omega⟩
  refine (concat_any _ [[secret], random] _ (Rows2.new2 _ _ _ _ _ _ 23 (by simp) HS4.out HX4.out) HT.out.1).mono ?_
  rintro e w3 ⟨u, rfl, hown3, hb3⟩
  obtain ⟨hc3, hf3⟩ := bcell hb3
  rw [HT.out.2.1] at hown3
  have hints := hown3.ints (by have := HT.out.2.2; simp; omega)
  obtain ⟨U, cu, rfl, hmu⟩ := hints.shape
  have HU := Lib.hid hints
  have HB3 := Lib.hid (below_step ((HB2.out.alloc (by have := HB2.out.size; omega) _).alloc (by have := HB2.out.size; simp; omega) _) hb3)
  have HR4 := Lib.hid (((HR3.out.alloc (.cells #[I secret] 3)).alloc (.cells #[.slice (some ⟨w2.heap.size, 0, none⟩) 1 1, .slice C random.length cc] 23)).below hb3)
  have hs3 : w2.heap.size < w3.heap.size := by have := hb3.size; simp at this; omega
  have hs3' : w.heap.size < w3.heap.size := by omega
  have p3 := keep hb3 (keepA (.cells #[.slice (some ⟨w2.heap.size, 0, none⟩) 1 1, .slice C random.length cc] 23) (keepA (.cells #[I secret] 3) P2.out))
  clear hb3 hown3 hints hc1 hf1 hc2 hf2 hc3 hf3 g1 g2 hcp1 hcp2
  go_wp2
  go_loopw [6, 47] (fun l j wr => ∃ k : Nat, k ≤ rows.length ∧ j = I k ∧ Hid (OwnOf 81 2 encS wr w3.heap.size l ((dealt rows (secret :: random)).take k)) ∧ Hid (Below w3.heap.size w3 wr)) (fun _ j _ => rows.length - (intOf j).toNat)
  case atStart => exact ⟨0, Nat.zero_le _, rfl, Lib.hid (OwnOf.nil _ _ _ _ _), Lib.hid (Below.refl _ _)⟩
  case round =>
    obtain ⟨k, hk, rfl, hown, hbw⟩ := hrel
    by_cases hlt : k < rows.length
    · obtain ⟨ad, r, rfl, hc, hru⟩ := (HR4.out.below hbw.out).at k hlt
      have HRU := Lib.hid hru
      have N := Lib.hid (dealt_take (s := secret :: random) hlt)
      have hl : Hid (rows[k].length ≤ (secret :: random).length) := Lib.hid (by have := (HROW.out k hlt).1; have := Q4.out; simp; omega)
      have hlen : Hid ((((dealt rows (secret :: random)).take k).length + 1) * 16 ≤ 140737488355328) := Lib.hid (by have := H64.out; simp [dealt]; omega)
      clear hru
      go_wp2_with fail
      refine (times_any _ _ rows[k] (secret :: random) _ HRU.out (HU.out.below hbw.out) hl.out).mono ?_
      rintro e w4 ⟨rfl, hb4⟩
      have HO4 := Lib.hid (hown.out.below hb4)
      have HB4 := Lib.hid (hbw.out.trans (hb4.mono hbw.out.size))
      clear hb4
      go_wp2_with (at_builtin; go_loud (refine app_one w3.heap.size rfl _ _ 36 81 (.agg #[I 0, I 0]) 2 16 rfl Tryz.underlying36 info_share rfl (by decide) (by decide) encS _ _ ((k : Int), dot rows[k] (secret :: random)) (by rfl) #[I k, I (dot rows[k] (secret :: random))] rfl rfl (encS_one _) _ (by rfl) rfl HO4.out HB4.out HB4.out.size hlen.out ?_); intro v1 w5 ho5 hb5 _ _ _)
      go_roundw
      case rel => exact ⟨k + 1, by omega, by go_num, Lib.hid (by rw [N.out]; exact ho5), Lib.hid hb5⟩
      case measure => simp [intOf]; omega
    · have E2 : Hid ((dealt rows (secret :: random)).take k = dealt rows (secret :: random)) := Lib.hid (by rw [List.take_of_length_le (by simp [dealt]; omega)])
      have hsh := hown.out.shares (by have := H64.out; simp [dealt]; omega)
      rw [E2.out] at hsh
      have HSH := Lib.hid hsh
      obtain ⟨A6, c6, e6⟩ := hown.out.shape
      generalize ((dealt rows (secret :: random)).take k).length = n6 at e6
      subst e6
      have HW := Lib.hid (below_step HB3.out hbw.out)
      have hwr3 := hbw.out.size
      have HU5 := Lib.hid (HU.out.below hbw.out)
      obtain ⟨W2, hW2⟩ : ∃ W2, W2 = wr := ⟨_, rfl⟩
      clear hsh hwr3
      go_wp2
      subst hW2
      go_loopw [6, 7, 63] (fun l6 l j wr' => l6 = .slice A6 n6 c6 ∧ ∃ q : Nat, q ≤ (secret :: random).length ∧ j = I q ∧ Hid (OwnOf 3 1 encI wr' W2.heap.size l ((commitsOf (secret :: random)).take q)) ∧ Hid (Below W2.heap.size W2 wr')) (fun _ _ j _ => (secret :: random).length - (intOf j).toNat)
      case atStart => exact ⟨rfl, 0, Nat.zero_le _, rfl, Lib.hid (OwnOf.nil _ _ _ _ _), Lib.hid (Below.refl _ _)⟩
      case round =>
        obtain ⟨rfl, q, hq, rfl, hown2, hb2⟩ := hrel
        by_cases hlt2 : q < (secret :: random).length
        · obtain ⟨ud, rfl, hce⟩ := (HU5.out.below hb2.out).at q hlt2
          have hlt3 : q < random.length + 1 := by simpa using hlt2
          have hp4 := powP_vld (secret :: random)[q] vld_four
          have G4 : Hid (powErr 4 = 0) := Lib.hid hp4.2
          have g4 : (powErr 4 != 0) = false := by rw [hp4.2]; rfl
          have N : Hid ((commitsOf (secret :: random)).take (q + 1) = (commitsOf (secret :: random)).take q ++ [powP 4 (secret :: random)[q]]) := Lib.hid (by
            unfold commitsOf; rw [List.take_succ_eq_append_getElem (by rw [List.length_map]; exact hlt2), List.getElem_map])
          have hlen : Hid ((((commitsOf (secret :: random)).take q).length + 1) * 8 ≤ 140737488355328) := Lib.hid (by have := HT.out.2.2; simp [commitsOf]; omega)
          clear hp4
          generalize (secret :: random)[q] = sq at *
          go_wp2_with fail
          refine (pow_any 4 sq _).mono ?_
          rintro e w4 ⟨rfl, hb4⟩
          have HO4 := Lib.hid (hown2.out.below hb4)
          have HB4 := Lib.hid (hb2.out.trans (hb4.mono hb2.out.size))
          clear hb4
          go_wp2_with (at_builtin; refine app_one W2.heap.size rfl _ _ 23 3 (I 0) 1 8 rfl Tryz.underlying23 info_int rfl (by decide) (by decide) encI _ _ (powP 4 sq) (by rfl) #[I (powP 4 sq)] rfl rfl (by intro u hu; simp at hu; subst hu; rfl) _ (by rfl) rfl HO4.out HB4.out HB4.out.size hlen.out ?_; intro v1 w5 ho5 hb5 _ _ _)
          go_roundw
          case rel => exact ⟨rfl, q + 1, by omega, by go_num, Lib.hid (by rw [N.out]; exact ho5), Lib.hid hb5⟩
          case measure => simp [intOf]; omega
        · have hge3 : random.length + 1 ≤ q := by simp at hlt2; omega
          have E3 : Hid ((commitsOf (secret :: random)).take q = commitsOf (secret :: random)) := Lib.hid (by rw [List.take_of_length_le (by unfold commitsOf; rw [List.length_map]; omega)])
          have hci := hown2.out.ints (by have := HT.out.2.2; simp [commitsOf]; omega)
          rw [E3.out] at hci
          have HCI := Lib.hid hci
          clear hci
          go_wp2
          go_ret3
          exact ⟨_, _, by rfl, HSH.out.below hb2.out, HCI.out, below_step HW.out hb2.out⟩

end Go.Proofs.YtgacdmkhgllceaaGreatDoor
