import Derived.Test.YtgacdmkhgllceaaGreatDoorZRange
import Derived.Test.YtgacdmkhgllceaaGreatDoorZGroup1
namespace Go.Proofs.YtgacdmkhgllceaaGreatDoor
open Go.RowKit Go.Shelf

/-- A function value, and what its calls come to. -/
def PredOf (g : Nat) (cap : Array Value) (p : Int → Bool) : Prop :=
  (∀ args w, (callFunc g args).run Tryz.prog w = .ok (.enter g args) w) ∧
  ∀ x w, Calls Tryz.prog g (#[I x] ++ cap) w fun e w' => e = .returned (.bool (p x)) ∧ w = w'

/-- The place of the first element with a property; -1 if there is none. -/
def idx {α : Type} (p : α → Bool) (xs : List α) : Int := match xs.findIdx? p with | some i => i | none => -1

theorem idx_none {α : Type} {p : α → Bool} {xs : List α} (h : ∀ x ∈ xs, p x = false) : idx p xs = -1 := by
  unfold idx; rw [List.findIdx?_eq_none_iff.2 h]
theorem idx_some {α : Type} {p : α → Bool} {xs : List α} {i : Nat} (hi : i < xs.length) (h : p xs[i] = true) (hb : ∀ x ∈ xs.take i, p x = false) : idx p xs = i := by
  unfold idx
  have : xs.findIdx? p = some i := by
    rw [List.findIdx?_eq_some_iff_getElem]
    refine ⟨hi, h, fun j hj => ?_⟩
    have := hb xs[j] (by rw [List.mem_take_iff_getElem]; exact ⟨j, by omega, rfl⟩)
    simp [this]
  rw [this]
theorem idx_any {α : Type} (p : α → Bool) (xs : List α) : decide (0 ≤ idx p xs) = xs.any p := by
  unfold idx
  cases h : xs.findIdx? p with
  | none =>
    have := List.findIdx?_eq_none_iff.1 h
    have : xs.any p = false := by rw [List.any_eq_false]; intro x hx; rw [this x hx]; decide
    rw [this]; rfl
  | some i =>
    rw [List.findIdx?_eq_some_iff_getElem] at h
    obtain ⟨hi, h1, _⟩ := h
    have : xs.any p = true := List.any_eq_true.2 ⟨_, List.getElem_mem hi, h1⟩
    rw [this]; simp

theorem take_all_snoc {α : Type} {p : α → Bool} {xs : List α} {k : Nat} (hk : k < xs.length) (h : ∀ x ∈ xs.take k, p x = false) (hp : p xs[k] = false) : ∀ x ∈ xs.take (k + 1), p x = false := by
  rw [List.take_succ_eq_append_getElem hk]
  intro x hx
  rw [List.mem_append] at hx
  rcases hx with hx | hx
  · exact h x hx
  · simp at hx; rw [hx]; exact hp

set_option maxHeartbeats 400000 in
theorem indexInt_any (g : Nat) (cap : Array Value) (p : Int → Bool) (hp : PredOf g cap p) (v : Value) (xs : List Int) (w : World) (hv : Ints w v xs) :
    Calls Tryz.prog 167 #[v, .func (.func g) #[] cap] w fun e w' => e = .returned (I (idx p xs)) ∧ w = w' := by
  obtain ⟨A, c, rfl, hm⟩ := hv.shape
  have HV := Lib.hid hv
  have HP := Lib.hid hp
  have hen := hp.1
  clear hv hp
  go_enter Tryz.func167, Tryz.ntmps167
  go_wp2
  go_loop [8] (fun i => ∃ k : Nat, k ≤ xs.length ∧ i = I k ∧ Hid (∀ x ∈ xs.take k, p x = false)) (fun i => xs.length - (intOf i).toNat)
  case atStart => exact ⟨0, Nat.zero_le _, rfl, Lib.hid (by simp)⟩
  case round =>
    obtain ⟨k, hk, rfl, hb⟩ := hrel
    by_cases hlt : k < xs.length
    · obtain ⟨ad, rfl, hc⟩ := HV.out.at k hlt
      go_wp2_with fail
      refine (HP.out.2 _ _).mono ?_
      rintro e w' ⟨rfl, rfl⟩
      cases hq : p xs[k] with
      | true =>
        have HI := Lib.hid (idx_some hlt hq hb.out)
        clear hq
        go_wp2
        go_ret
        exact ⟨ret_int HI.out.symm, rfl⟩
      | false =>
        have HI := Lib.hid (take_all_snoc hlt hb.out hq)
        clear hq
        go_wp2
        go_round
        case rel => exact ⟨k + 1, by omega, by go_num, HI⟩
        case measure => simp [intOf]; omega
    · have HI := Lib.hid (idx_none (p := p) (xs := xs) (by have := hb.out; rwa [List.take_of_length_le (by omega)] at this))
      go_wp2
      go_ret
      exact ⟨ret_int HI.out.symm, rfl⟩

theorem containsInt_any (g : Nat) (cap : Array Value) (p : Int → Bool) (hp : PredOf g cap p) (v : Value) (xs : List Int) (w : World) (hv : Ints w v xs) :
    Calls Tryz.prog 126 #[v, .func (.func g) #[] cap] w fun e w' => e = .returned (.bool (xs.any p)) ∧ w = w' := by
  have HI := Lib.hid (idx_any p xs)
  have HV := Lib.hid hv
  have HP := Lib.hid hp
  clear hv hp
  go_enter Tryz.func126, Tryz.ntmps126
  go_wp2_with fail
  refine (indexInt_any g cap p HP.out _ xs _ HV.out).mono ?_
  rintro e w' ⟨rfl, rfl⟩
  go_wp2
  go_ret
  exact ⟨ret_bool HI.out, rfl⟩

end Go.Proofs.YtgacdmkhgllceaaGreatDoor

namespace Go.Proofs.YtgacdmkhgllceaaGreatDoor
open Go.RowKit Go.Shelf

/-- A product of elements; 0 of what are none. -/
noncomputable def mulP (a b : Int) : Int := if Sg.vld a && Sg.vld b then a * b % 2147483579 else 0
/-- The error of a product. -/
noncomputable def mulErr (a b : Int) : Int := if Sg.vld a && Sg.vld b then 0 else 100

theorem mulP_any (a b : Int) (w : World) :
    Calls Tryz.prog 69 #[I a, I b] w fun e w' => e = .returned (.tuple #[I (mulP a b), I (mulErr a b)]) ∧ w = w' := by
  cases ha : Sg.vld a with
  | false =>
    have E : Hid (mulP a b = 0 ∧ mulErr a b = 100) := Lib.hid ⟨by unfold mulP; rw [ha]; rfl, by unfold mulErr; rw [ha]; rfl⟩
    go_enter Tryz.func69, Tryz.ntmps69
    go_wp2_with fail
    refine (valid_any a _).mono ?_
    rintro e w' ⟨rfl, rfl⟩
    go_wp2
    go_ret2
    exact ⟨ret_two (congrArg I E.out.1.symm) (congrArg I E.out.2.symm), rfl⟩
  | true =>
    cases hb : Sg.vld b with
    | false =>
      have E : Hid (mulP a b = 0 ∧ mulErr a b = 100) := Lib.hid ⟨by unfold mulP; rw [ha, hb]; rfl, by unfold mulErr; rw [ha, hb]; rfl⟩
      go_enter Tryz.func69, Tryz.ntmps69
      go_wp2_with fail
      refine (valid_any a _).mono ?_
      rintro e w' ⟨rfl, rfl⟩
      go_wp2_with fail
      refine (valid_any b _).mono ?_
      rintro e w' ⟨rfl, rfl⟩
      go_wp2
      go_ret2
      exact ⟨ret_two (congrArg I E.out.1.symm) (congrArg I E.out.2.symm), rfl⟩
    | true =>
      obtain ⟨a1, a2⟩ := vld_range ha
      obtain ⟨b1, b2⟩ := vld_range hb
      have E : Hid (mulP a b = (wrap64 (a * b)).tmod 2147483579 ∧ mulErr a b = 0) := Lib.hid ⟨by unfold mulP; rw [ha, hb, mulmodP (by omega) a2 (by omega) b2]; rfl, by unfold mulErr; rw [ha, hb]; rfl⟩
      clear a1 a2 b1 b2
      go_enter Tryz.func69, Tryz.ntmps69
      go_wp2_with fail
      refine (valid_any a _).mono ?_
      rintro e w' ⟨rfl, rfl⟩
      go_wp2_with fail
      refine (valid_any b _).mono ?_
      rintro e w' ⟨rfl, rfl⟩
      go_wp2
      go_ret2
      exact ⟨ret_two (congrArg I E.out.1.symm) (congrArg I E.out.2.symm), rfl⟩

theorem partial_power_any (a n : Int) (w : World) :
    Calls Tryz.prog 57 #[I a, I n] w fun e w' => e = .returned (I (powP a n)) ∧ Below w.heap.size w w' := by
  go_enter Tryz.func57, Tryz.ntmps57
  go_wp2_with fail
  refine (pow_any a n _).mono ?_
  rintro e w' ⟨rfl, hb⟩
  go_wp2
  go_ret
  exact ⟨rfl, hb⟩

theorem sign_power_any (a n : Int) (w : World) :
    Calls Tryz.prog 77 #[I a, I n] w fun e w' => e = .returned (I (powP a n)) ∧ Below w.heap.size w w' := by
  go_enter Tryz.func77, Tryz.ntmps77
  go_wp2_with fail
  refine (pow_any a n _).mono ?_
  rintro e w' ⟨rfl, hb⟩
  go_wp2
  go_ret
  exact ⟨rfl, hb⟩

/-- Is a number none of the field? -/
def oddQ (n : Int) : Bool := decide (n < 0) || decide (1073741789 ≤ n)

theorem numbers1_pred : PredOf 157 #[] oddQ := by
  refine ⟨enters_of Tryz.func157 (by kernel_rfl) rfl, fun x w => ?_⟩
  by_cases h : x < 0
  · have g : decide (x < 0) = true := decide_eq_true h
    have E : Hid (oddQ x = true) := Lib.hid (by unfold oddQ; rw [g]; rfl)
    clear h
    go_enter Tryz.func157, Tryz.ntmps157
    go_wp2
    go_ret
    exact ⟨ret_bool E.out.symm, rfl⟩
  · have g : decide (x < 0) = false := decide_eq_false h
    have E : Hid (oddQ x = decide (1073741789 ≤ x)) := Lib.hid (by unfold oddQ; rw [g]; rfl)
    clear h
    go_enter Tryz.func157, Tryz.ntmps157
    go_wp2
    go_ret
    exact ⟨ret_bool E.out.symm, rfl⟩

/-- Are all numbers of the field? -/
def numsQ (xs : List Int) : Bool := !(xs.any oddQ)

theorem numbers_any (v : Value) (xs : List Int) (w : World) (hv : Ints w v xs) :
    Calls Tryz.prog 107 #[v] w fun e w' => e = .returned (.bool (numsQ xs)) ∧ w = w' := by
  have HV := Lib.hid hv
  clear hv
  go_enter Tryz.func107, Tryz.ntmps107
  go_wp2_with fail
  refine (containsInt_any _ _ _ numbers1_pred _ xs _ HV.out).mono ?_
  rintro e w' ⟨rfl, rfl⟩
  go_wp2
  go_ret
  exact ⟨rfl, rfl⟩

/-- Is a number no element? -/
noncomputable def oddP (n : Int) : Bool := !Sg.vld n

theorem check1_pred : PredOf 168 #[] oddP := by
  refine ⟨enters_of Tryz.func168 (by kernel_rfl) rfl, fun x w => ?_⟩
  go_enter Tryz.func168, Tryz.ntmps168
  go_wp2_with fail
  refine (valid_any x _).mono ?_
  rintro e w' ⟨rfl, rfl⟩
  go_wp2
  go_ret
  exact ⟨rfl, rfl⟩
theorem right1_pred : PredOf 161 #[] oddP := by
  refine ⟨enters_of Tryz.func161 (by kernel_rfl) rfl, fun x w => ?_⟩
  go_enter Tryz.func161, Tryz.ntmps161
  go_wp2_with fail
  refine (valid_any x _).mono ?_
  rintro e w' ⟨rfl, rfl⟩
  go_wp2
  go_ret
  exact ⟨rfl, rfl⟩

end Go.Proofs.YtgacdmkhgllceaaGreatDoor

namespace Go.Proofs.YtgacdmkhgllceaaGreatDoor
open Go.RowKit Go.Shelf

theorem old_alloc (w : World) (o : Obj) : ∀ b : Addr, b.block < w.heap.size → (w.alloc o).cell? b = w.cell? b := fun b hb => World.cell?_alloc_lt w o b hb

theorem Ints.alloc {w : World} {v : Value} {xs : List Int} (h : Ints w v xs) (o : Obj) : Ints (w.alloc o) v xs := Sl.stays IntE.stays (old_alloc w o) h
theorem Rows2.alloc {w : World} {v : Value} {xs : List (List Int)} (h : Rows2 w v xs) (o : Obj) : Rows2 (w.alloc o) v xs := Sl.stays RowE.stays (old_alloc w o) h
theorem Rows2.shape {w : World} {v : Value} {xs : List (List Int)} (h : Rows2 w v xs) : ∃ A c, v = .slice A xs.length c ∧ xs.length ≤ 140737488355328 := by
  obtain ⟨A', c', h1, h2, h3, h4⟩ := h
  exact ⟨A', c', h1, h3⟩
theorem Rows2.at {w : World} {A : Option Addr} {n c : Nat} {xs : List (List Int)} (h : Rows2 w (.slice A n c) xs) (i : Nat) (hi : i < xs.length) :
    ∃ ad v, A = some ad ∧ w.cell? (ad.add i) = some v ∧ Ints w v xs[i] := by
  obtain ⟨A', c', h1, h2, h3, h4⟩ := h
  injection h1 with h1 h5 h6
  obtain ⟨ad, e1, v, e2, e3⟩ := h4 i hi
  rw [Nat.mul_one] at e2
  exact ⟨ad, v, h1.trans e1, e2, e3⟩

/-- A function value over lists, and what its calls come to. -/
def PredOfL (g : Nat) (cap : Array Value) (p : List Int → Bool) : Prop :=
  (∀ args w, (callFunc g args).run Tryz.prog w = .ok (.enter g args) w) ∧
  ∀ v xs w, Ints w v xs → Calls Tryz.prog g (#[v] ++ cap) w fun e w' => e = .returned (.bool (p xs)) ∧ w = w'

set_option maxHeartbeats 400000 in
theorem indexRows_any (g : Nat) (cap : Array Value) (p : List Int → Bool) (hp : PredOfL g cap p) (v : Value) (xs : List (List Int)) (w : World) (hv : Rows2 w v xs) :
    Calls Tryz.prog 185 #[v, .func (.func g) #[] cap] w fun e w' => e = .returned (I (idx p xs)) ∧ w = w' := by
  obtain ⟨A, c, rfl, hm⟩ := hv.shape
  have HV := Lib.hid hv
  have HP := Lib.hid hp
  have hen := hp.1
  clear hv hp
  go_enter Tryz.func185, Tryz.ntmps185
  go_wp2
  go_loop [8] (fun i => ∃ k : Nat, k ≤ xs.length ∧ i = I k ∧ Hid (∀ x ∈ xs.take k, p x = false)) (fun i => xs.length - (intOf i).toNat)
  case atStart => exact ⟨0, Nat.zero_le _, rfl, Lib.hid (by simp)⟩
  case round =>
    obtain ⟨k, hk, rfl, hb⟩ := hrel
    by_cases hlt : k < xs.length
    · obtain ⟨ad, u, rfl, hc, hu⟩ := HV.out.at k hlt
      have HU := Lib.hid hu
      clear hu
      go_wp2_with fail
      refine (HP.out.2 _ _ _ HU.out).mono ?_
      rintro e w' ⟨rfl, rfl⟩
      cases hq : p xs[k] with
      | true =>
        have HI := Lib.hid (idx_some hlt hq hb.out)
        clear hq
        go_wp2
        go_ret
        exact ⟨ret_int HI.out.symm, rfl⟩
      | false =>
        have HI := Lib.hid (take_all_snoc hlt hb.out hq)
        clear hq
        go_wp2
        go_round
        case rel => exact ⟨k + 1, by omega, by go_num, HI⟩
        case measure => simp [intOf]; omega
    · have HI := Lib.hid (idx_none (p := p) (xs := xs) (by have := hb.out; rwa [List.take_of_length_le (by omega)] at this))
      go_wp2
      go_ret
      exact ⟨ret_int HI.out.symm, rfl⟩

theorem containsRows_any (g : Nat) (cap : Array Value) (p : List Int → Bool) (hp : PredOfL g cap p) (v : Value) (xs : List (List Int)) (w : World) (hv : Rows2 w v xs) :
    Calls Tryz.prog 152 #[v, .func (.func g) #[] cap] w fun e w' => e = .returned (.bool (xs.any p)) ∧ w = w' := by
  have HI := Lib.hid (idx_any p xs)
  have HV := Lib.hid hv
  have HP := Lib.hid hp
  clear hv hp
  go_enter Tryz.func152, Tryz.ntmps152
  go_wp2_with fail
  refine (indexRows_any g cap p HP.out _ xs _ HV.out).mono ?_
  rintro e w' ⟨rfl, rfl⟩
  go_wp2
  go_ret
  exact ⟨ret_bool HI.out, rfl⟩

/-- A number between two others. -/
def within (n a b : Int) : Bool := decide (a ≤ n) && decide (n ≤ b)

theorem within_any (n a b : Int) (w : World) :
    Calls Tryz.prog 154 #[I n, I a, I b] w fun e w' => e = .returned (.bool (within n a b)) ∧ w = w' := by
  by_cases h : a ≤ n
  · have g : decide (a ≤ n) = true := decide_eq_true h
    have E : Hid (within n a b = decide (n ≤ b)) := Lib.hid (by unfold within; rw [g]; rfl)
    clear h
    go_enter Tryz.func154, Tryz.ntmps154
    go_wp2
    go_ret
    exact ⟨ret_bool E.out.symm, rfl⟩
  · have g : decide (a ≤ n) = false := decide_eq_false h
    have E : Hid (within n a b = false) := Lib.hid (by unfold within; rw [g]; rfl)
    clear h
    go_enter Tryz.func154, Tryz.ntmps154
    go_wp2
    go_ret
    exact ⟨ret_bool E.out.symm, rfl⟩

/-- Is a number somebody? -/
def isP (n : Int) : Bool := within n 0 63

theorem isPerson_any (n : Int) (w : World) :
    Calls Tryz.prog 155 #[I n] w fun e w' => e = .returned (.bool (isP n)) ∧ w = w' := by
  go_enter Tryz.func155, Tryz.ntmps155
  go_wp2_with fail
  refine (within_any n 0 63 _).mono ?_
  rintro e w' ⟨rfl, rfl⟩
  go_wp2
  go_ret
  exact ⟨rfl, rfl⟩

theorem progCheck1_pred : PredOfL 151 #[] (fun r => decide (64 < r.length)) := by
  refine ⟨enters_of Tryz.func151 (by kernel_rfl) rfl, fun v xs w hv => ?_⟩
  obtain ⟨A, c, rfl, hm⟩ := hv.shape
  have HV := Lib.hid hv
  clear hv
  go_enter Tryz.func151, Tryz.ntmps151
  go_wp2
  go_ret
  exact ⟨ret_bool (by simp; omega), rfl⟩

theorem progCheck2_pred : PredOf 153 #[] oddQ := by
  refine ⟨enters_of Tryz.func153 (by kernel_rfl) rfl, fun x w => ?_⟩
  have E : Hid (oddQ x = !within x 0 1073741788) := Lib.hid (by unfold oddQ within; rw [Bool.eq_iff_iff]; simp; omega)
  go_enter Tryz.func153, Tryz.ntmps153
  go_wp2_with fail
  refine (within_any x 0 1073741788 _).mono ?_
  rintro e w' ⟨rfl, rfl⟩
  go_wp2
  go_ret
  exact ⟨ret_bool E.out.symm, rfl⟩

end Go.Proofs.YtgacdmkhgllceaaGreatDoor

namespace Go.Proofs.YtgacdmkhgllceaaGreatDoor
open Go.RowKit Go.Shelf

/-- Is a row with its owner wrong, where rows have m elements? -/
def badRow (m : Nat) (r : List Int) (o : Int) : Bool := decide (r.length = 0) || (decide (r.length ≠ m) || (!isP o || r.any oddQ))
/-- The error of a program. -/
def progErr (rows : List (List Int)) (owners : List Int) : Int :=
  if 64 < rows.length then 2 else if rows.any (fun r => decide (64 < r.length)) then 2
  else if rows.length ≠ owners.length then 230
  else if (rows.zip owners).any (fun x => badRow (rows.headD []).length x.1 x.2) then 230 else 0

theorem progErr_long {rows owners} (h : 64 < rows.length) : progErr rows owners = 2 := by unfold progErr; rw [if_pos h]
theorem progErr_wide {rows owners} (h : ¬ 64 < rows.length) (h2 : rows.any (fun r => decide (64 < r.length)) = true) : progErr rows owners = 2 := by unfold progErr; rw [if_neg h, if_pos h2]
theorem progErr_len {rows owners} (h : ¬ 64 < rows.length) (h2 : rows.any (fun r => decide (64 < r.length)) = false) (h3 : rows.length ≠ owners.length) : progErr rows owners = 230 := by unfold progErr; rw [if_neg h, if_neg (by rw [h2]; decide), if_pos h3]
theorem progErr_row {rows owners} (h : ¬ 64 < rows.length) (h2 : rows.any (fun r => decide (64 < r.length)) = false) (h3 : rows.length = owners.length) (k : Nat) (hk : k < rows.length)
    (hb : badRow (rows.headD []).length rows[k] (owners[k]'(by omega)) = true) : progErr rows owners = 230 := by
  unfold progErr; rw [if_neg h, if_neg (by rw [h2]; decide), if_neg (by omega), if_pos]
  rw [List.any_eq_true]
  exact ⟨(rows[k], owners[k]'(by omega)), by rw [← List.getElem_zip (h := by rw [List.length_zip]; omega)]; exact List.getElem_mem _, hb⟩
theorem progErr_ok {rows owners} (h : ¬ 64 < rows.length) (h2 : rows.any (fun r => decide (64 < r.length)) = false) (h3 : rows.length = owners.length)
    (hb : ∀ k, (hk : k < rows.length) → badRow (rows.headD []).length rows[k] (owners[k]'(by omega)) = false) : progErr rows owners = 0 := by
  unfold progErr; rw [if_neg h, if_neg (by rw [h2]; decide), if_neg (by omega), if_neg]
  rw [Bool.not_eq_true, List.any_eq_false]
  intro x hx
  obtain ⟨k, hk, rfl⟩ := List.getElem_of_mem hx
  rw [List.length_zip] at hk
  rw [List.getElem_zip]
  exact fun h => by have := hb k (by omega); rw [this] at h; cases h

theorem headD_get {rows : List (List Int)} (h : 0 < rows.length) : rows.headD [] = rows[0] := by
  cases rows with
  | nil => simp at h
  | cons r l => rfl

set_option maxHeartbeats 1000000 in
theorem progCheck_any (vr vo : Value) (rows : List (List Int)) (owners : List Int) (w : World) (hr : Rows2 w vr rows) (ho : Ints w vo owners) :
    Calls Tryz.prog 97 #[.agg #[vr, vo]] w fun e w' => e = .returned (I (progErr rows owners)) ∧ Below w.heap.size w w' := by
  obtain ⟨A, c, rfl, hm⟩ := hr.shape
  obtain ⟨B, d, rfl, hn⟩ := ho.shape
  have HR := Lib.hid (hr.alloc (.cells #[.slice A rows.length c, .slice B owners.length d] 25))
  have HO := Lib.hid (ho.alloc (.cells #[.slice A rows.length c, .slice B owners.length d] 25))
  have BW := (Below.refl w.heap.size w).alloc (Nat.le_refl _) (.cells #[.slice A rows.length c, .slice B owners.length d] 25)
  have HB := Lib.hid BW
  clear hr ho BW
  by_cases h : 64 < rows.length
  · have E := Lib.hid (progErr_long (owners := owners) h)
    go_enter Tryz.func97, Tryz.ntmps97
    go_wp2
    go_ret
    exact ⟨ret_int E.out.symm, HB.out⟩
  · have H1 := Lib.hid h
    have h' : rows.length ≤ 64 := by omega
    clear h
    go_enter Tryz.func97, Tryz.ntmps97
    go_wp2_with fail
    refine (containsRows_any _ _ _ progCheck1_pred _ rows _ HR.out).mono ?_
    rintro e w' ⟨rfl, rfl⟩
    cases h2 : rows.any (fun r => decide (64 < r.length)) with
    | true =>
      have E := Lib.hid (progErr_wide (owners := owners) H1.out h2)
      clear h2
      go_wp2
      go_ret
      exact ⟨ret_int E.out.symm, HB.out⟩
    | false =>
      by_cases h3 : rows.length = owners.length
      · have g3 : ((rows.length : Int) != (owners.length : Int)) = false := by simp; omega
        have H2 := Lib.hid h2
        have H3 := Lib.hid h3
        clear h2 h3
        go_wp2
        clear g3
        go_loop [27] (fun i => ∃ k : Nat, k ≤ rows.length ∧ i = I k ∧ Hid (∀ j, (hj : j < k) → (hk : j < rows.length) → badRow (rows.headD []).length rows[j] (owners[j]'(by have := H3.out; omega)) = false)) (fun i => rows.length - (intOf i).toNat)
        case atStart => exact ⟨0, Nat.zero_le _, rfl, Lib.hid (fun j hj => by omega)⟩
        case round =>
          obtain ⟨k, hk, rfl, hb⟩ := hrel
          by_cases hlt : k < rows.length
          · have hlo : k < owners.length := by have := H3.out; omega
            obtain ⟨ad, u, rfl, hc, hu⟩ := HR.out.at k hlt
            obtain ⟨ad', u0, e0, hc0, hu0⟩ := HR.out.at 0 (by omega)
            injection e0 with e0
            subst e0
            rw [show ad.add 0 = ad by unfold Addr.add; rfl] at hc0
            obtain ⟨A1, c1, rfl, hm1⟩ := hu.shape
            obtain ⟨A0, c0, rfl, hm0⟩ := hu0.shape
            obtain ⟨bd, rfl, ho⟩ := HO.out.at k hlo
            have HU := Lib.hid hu
            have HM : Hid ((rows.headD []).length = rows[0].length) := Lib.hid (by rw [headD_get (by omega)])
            have hpos : 0 < rows.length := by omega
            have fin : badRow (rows.headD []).length rows[k] owners[k] = true → progErr rows owners = 230 := fun h => progErr_row H1.out H2.out H3.out k hlt h
            have FIN := Lib.hid fin
            have nxt : badRow (rows.headD []).length rows[k] owners[k] = false → ∀ j, (hj : j < k + 1) → (hk : j < rows.length) → badRow (rows.headD []).length rows[j] (owners[j]'(by have := H3.out; omega)) = false := fun h j hj hk' => by
              by_cases e : j = k
              · subst e; exact h
              · exact hb.out j (by omega) hk'
            have NXT := Lib.hid nxt
            clear hu hu0 fin nxt
            by_cases q1 : rows[k].length = 0
            · have g1 : ((rows[k].length : Int) == 0) = true := beq_iff_eq.2 (by omega)
              have E := Lib.hid (FIN.out (by unfold badRow; rw [decide_eq_true q1]; rfl))
              clear q1
              go_wp2
              go_ret
              exact ⟨ret_int E.out.symm, HB.out⟩
            · have g1 : ((rows[k].length : Int) == 0) = false := beq_eq_false_iff_ne.2 (by omega)
              by_cases q2 : rows[k].length = rows[0].length
              · have g2 : ((rows[k].length : Int) != (rows[0].length : Int)) = false := by rw [q2]; simp
                have G : Hid (badRow (rows.headD []).length rows[k] owners[k] = (!isP owners[k] || rows[k].any oddQ)) := Lib.hid (by unfold badRow; rw [decide_eq_false q1, decide_eq_false (show ¬ (rows[k].length ≠ (rows.headD []).length) from fun h => h (by rw [HM.out, q2]))]; rfl)
                clear q1 q2
                go_wp2_with fail
                refine (isPerson_any _ _).mono ?_
                rintro e w' ⟨rfl, rfl⟩
                cases q3 : isP owners[k] with
                | false =>
                  have E := Lib.hid (FIN.out (by rw [G.out, q3]; rfl))
                  clear q3
                  go_wp2
                  go_ret
                  exact ⟨ret_int E.out.symm, HB.out⟩
                | true =>
                  have G2 : Hid (badRow (rows.headD []).length rows[k] owners[k] = rows[k].any oddQ) := Lib.hid (by rw [G.out, q3]; rfl)
                  clear q3
                  go_wp2_with fail
                  refine (containsInt_any _ _ _ progCheck2_pred _ rows[k] _ HU.out).mono ?_
                  rintro e w' ⟨rfl, rfl⟩
                  cases q4 : rows[k].any oddQ with
                  | true =>
                    have E := Lib.hid (FIN.out (by rw [G2.out, q4]))
                    clear q4
                    go_wp2
                    go_ret
                    exact ⟨ret_int E.out.symm, HB.out⟩
                  | false =>
                    have E := Lib.hid (NXT.out (by rw [G2.out, q4]))
                    clear q4
                    go_wp2
                    go_round
                    case rel => exact ⟨k + 1, by omega, by go_num, E⟩
                    case measure => simp [intOf]; omega
              · have g2 : ((rows[k].length : Int) != (rows[0].length : Int)) = true := bne_iff_ne.2 (fun h => q2 (Int.ofNat.inj h))
                have E := Lib.hid (FIN.out (by unfold badRow; rw [decide_eq_true (show rows[k].length ≠ (rows.headD []).length from fun h => q2 (by rw [h, HM.out]))]; simp))
                clear q1 q2
                go_wp2
                go_ret
                exact ⟨ret_int E.out.symm, HB.out⟩
          · have E := Lib.hid (progErr_ok H1.out H2.out H3.out (fun j hj => hb.out j (by omega) hj))
            go_wp2
            go_ret
            exact ⟨ret_int E.out.symm, HB.out⟩
      · have g3 : ((rows.length : Int) != (owners.length : Int)) = true := by simp; omega
        have E := Lib.hid (progErr_len H1.out h2 h3)
        clear h2 h3
        go_wp2
        go_ret
        exact ⟨ret_int E.out.symm, HB.out⟩

end Go.Proofs.YtgacdmkhgllceaaGreatDoor

namespace Go.Proofs.YtgacdmkhgllceaaGreatDoor
open Go.RowKit Go.Shelf

theorem bcell {W w1 : World} (hb : Below W.heap.size W w1) : (∀ b o, b < W.heap.size → w1.cell? ⟨b, o, none⟩ = W.cell? ⟨b, o, none⟩) ∧ (∀ b o, b < W.heap.size → w1.frozen? ⟨b, o, none⟩ = W.frozen? ⟨b, o, none⟩) :=
  ⟨fun b o h => hb.cell (p := ⟨b, o, none⟩) h, fun b o h => hb.frozen (p := ⟨b, o, none⟩) h⟩


/-- How many columns rows have. -/
def cols (rows : List (List Int)) : Nat := if rows.length = 0 then 1 else (rows.headD []).length

theorem columns_any (vr vo : Value) (rows : List (List Int)) (w : World) (hr : Rows2 w vr rows) :
    Calls Tryz.prog 108 #[.agg #[vr, vo]] w fun e w' => e = .returned (I (cols rows)) ∧ Below w.heap.size w w' := by
  obtain ⟨A, c, rfl, hm⟩ := hr.shape
  have hra := hr.alloc (.cells #[.slice A rows.length c, vo] 25)
  have BW := (Below.refl w.heap.size w).alloc (Nat.le_refl _) (.cells #[.slice A rows.length c, vo] 25)
  have HB := Lib.hid BW
  clear BW hr
  by_cases h : rows.length = 0
  · have g : ((rows.length : Int) == 0) = true := beq_iff_eq.2 (by omega)
    have E : Hid (cols rows = 1) := Lib.hid (by unfold cols; rw [if_pos h])
    clear h hra
    go_enter Tryz.func108, Tryz.ntmps108
    go_wp2
    go_ret
    exact ⟨ret_int (by rw [E.out]; rfl), HB.out⟩
  · have g : ((rows.length : Int) == 0) = false := beq_eq_false_iff_ne.2 (by omega)
    have hpos : 0 < rows.length := by omega
    obtain ⟨ad, u, rfl, hc, hu⟩ := hra.at 0 hpos
    obtain ⟨A1, c1, rfl, hm1⟩ := hu.shape
    rw [show ad.add 0 = ad by unfold Addr.add; rfl] at hc
    have E : Hid (cols rows = rows[0].length) := Lib.hid (by unfold cols; rw [if_neg h, headD_get hpos])
    clear h hra hu
    go_enter Tryz.func108, Tryz.ntmps108
    go_wp2
    go_ret
    exact ⟨ret_int (by rw [E.out]), HB.out⟩

/-- The error of commitments. -/
noncomputable def dealErr (rows : List (List Int)) (owners commits : List Int) : Int :=
  if progErr rows owners ≠ 0 then progErr rows owners else if commits.length ≠ cols rows then 340 else if commits.any oddP then 340 else 0

set_option maxHeartbeats 400000 in
theorem dealCheck_any (vr vo vc : Value) (rows : List (List Int)) (owners commits : List Int) (w : World) (hr : Rows2 w vr rows) (ho : Ints w vo owners) (hk : Ints w vc commits) :
    Calls Tryz.prog 129 #[.agg #[vr, vo], vc] w fun e w' => e = .returned (I (dealErr rows owners commits)) ∧ Below w.heap.size w w' := by
  obtain ⟨C, cc, rfl, hm⟩ := hk.shape
  obtain ⟨W, hW⟩ : ∃ W, w.alloc (.cells #[vr, vo] 25) = W := ⟨_, rfl⟩
  have hra := hr.alloc (.cells #[vr, vo] 25)
  have hoa := ho.alloc (.cells #[vr, vo] 25)
  have hka := hk.alloc (.cells #[vr, vo] 25)
  have BW := (Below.refl w.heap.size w).alloc (Nat.le_refl _) (.cells #[vr, vo] 25)
  have HB := Lib.hid BW
  have HR := Lib.hid hra
  have HO := Lib.hid hoa
  have HK := Lib.hid hka
  clear BW hr ho hk hra hoa hka hW
  go_enter Tryz.func129, Tryz.ntmps129
  go_wp2_with fail
  refine (progCheck_any _ _ rows owners _ HR.out HO.out).mono ?_
  rintro e w1 ⟨rfl, hb1⟩
  obtain ⟨hc1, hf1⟩ := bcell hb1
  have HB1 := Lib.hid hb1
  clear hb1
  by_cases q1 : progErr rows owners = 0
  · have g1 : (progErr rows owners != 0) = false := by rw [q1]; rfl
    have Q1 := Lib.hid q1
    clear q1
    go_wp2_with fail
    refine (columns_any _ _ rows _ (HR.out.below HB1.out)).mono ?_
    rintro e w2 ⟨rfl, hb2⟩
    obtain ⟨hc2, hf2⟩ := bcell hb2
    have HB2 := Lib.hid hb2
    clear hb2
    by_cases q2 : commits.length = cols rows
    · have g2 : ((commits.length : Int) != (cols rows : Int)) = false := by rw [q2]; simp
      have Q2 := Lib.hid q2
      clear q2
      go_wp2_with fail
      refine (containsInt_any _ _ _ check1_pred _ commits _ ((HK.out.below HB1.out).below HB2.out)).mono ?_
      rintro e w3 ⟨rfl, rfl⟩
      have fin : dealErr rows owners commits = if commits.any oddP then 340 else 0 := by unfold dealErr; rw [if_neg (by rw [Q1.out]; decide), if_neg (by rw [Q2.out]; simp)]
      cases q3 : commits.any oddP with
      | true =>
        have E := Lib.hid (show dealErr rows owners commits = 340 by rw [fin, q3]; rfl)
        clear q3 fin
        go_wp2
        go_ret
        exact ⟨ret_int E.out.symm, below_step (below_step HB.out HB1.out) HB2.out⟩
      | false =>
        have E := Lib.hid (show dealErr rows owners commits = 0 by rw [fin, q3]; rfl)
        clear q3 fin
        go_wp2
        go_ret
        exact ⟨ret_int E.out.symm, below_step (below_step HB.out HB1.out) HB2.out⟩
    · have g2 : ((commits.length : Int) != (cols rows : Int)) = true := bne_iff_ne.2 (fun h => q2 (Int.ofNat.inj h))
      have E := Lib.hid (show dealErr rows owners commits = 340 by unfold dealErr; rw [if_neg (by rw [Q1.out]; decide), if_pos q2])
      clear q2
      go_wp2
      go_ret
      exact ⟨ret_int E.out.symm, below_step (below_step HB.out HB1.out) HB2.out⟩
  · have g1 : (progErr rows owners != 0) = true := bne_iff_ne.2 q1
    have E := Lib.hid (show dealErr rows owners commits = progErr rows owners by unfold dealErr; rw [if_pos q1])
    clear q1
    go_wp2
    go_ret
    exact ⟨ret_int E.out.symm, below_step HB.out HB1.out⟩

end Go.Proofs.YtgacdmkhgllceaaGreatDoor

namespace Go.Proofs.YtgacdmkhgllceaaGreatDoor
open Go.RowKit Go.Shelf

theorem vld_iff (x : Int) : Sg.vld x = true ↔ 1 ≤ x ∧ x < 2147483579 ∧ x ^ Sg.Q % 2147483579 = 1 := by
  unfold Sg.vld
  rw [Sg.mp_def]
  simp only [Bool.and_eq_true, decide_eq_true_eq, beq_iff_eq]
  constructor
  · rintro ⟨h1, h2, h3⟩
    refine ⟨h1, h2, ?_⟩
    obtain ⟨n, rfl⟩ := Int.eq_ofNat_of_zero_le (show 0 ≤ x by omega)
    rw [Int.toNat_natCast] at h3
    have h4 : (((n ^ Sg.Q % Sg.P : Nat)) : Int) = 1 := by rw [h3]; rfl
    rw [Int.natCast_emod, Int.natCast_pow] at h4
    exact h4
  · rintro ⟨h1, h2, h3⟩
    refine ⟨h1, h2, ?_⟩
    obtain ⟨n, rfl⟩ := Int.eq_ofNat_of_zero_le (show 0 ≤ x by omega)
    rw [Int.toNat_natCast]
    have h4 : (((n ^ Sg.Q % Sg.P : Nat)) : Int) = 1 := by rw [Int.natCast_emod, Int.natCast_pow]; exact h3
    exact Int.ofNat.inj h4

theorem vld_of_pow {x : Int} (h : x ^ Sg.Q % 2147483579 = 1) : Sg.vld (x % 2147483579) = true := by
  rw [vld_iff]
  have h1 : (x % 2147483579) ^ Sg.Q % 2147483579 = 1 := by rw [pmod_pow]; exact h
  refine ⟨?_, by omega, h1⟩
  have h0 : 0 ≤ x % 2147483579 := by omega
  rcases Int.lt_or_le 0 (x % 2147483579) with h2 | h2
  · omega
  · have : x % 2147483579 = 0 := by omega
    rw [this, Int.zero_pow (by decide)] at h1
    exact absurd h1 (by decide)

theorem mulP_vld {a b : Int} (ha : Sg.vld a = true) (hb : Sg.vld b = true) : Sg.vld (mulP a b) = true ∧ mulErr a b = 0 ∧ mulP a b = a * b % 2147483579 := by
  have e : mulP a b = a * b % 2147483579 := by unfold mulP; rw [ha, hb]; rfl
  refine ⟨?_, by unfold mulErr; rw [ha, hb]; rfl, e⟩
  rw [e]
  have h1 := ((vld_iff a).1 ha).2.2
  have h2 := ((vld_iff b).1 hb).2.2
  refine vld_of_pow ?_
  rw [Int.mul_pow, Int.mul_emod, h1, h2]; decide

theorem pow_vld {a : Int} (n : Nat) (ha : Sg.vld a = true) : Sg.vld (a ^ n % 2147483579) = true := by
  have h1 := ((vld_iff a).1 ha).2.2
  refine vld_of_pow ?_
  have h2 : (a ^ Sg.Q) ^ n % 2147483579 = ((a ^ Sg.Q) % 2147483579) ^ n % 2147483579 := (pmod_pow _ _).symm
  rw [← Int.pow_mul, Nat.mul_comm, Int.pow_mul, h2, h1, Int.one_pow]; decide

theorem powP_vld {a : Int} (n : Int) (ha : Sg.vld a = true) : Sg.vld (powP a n) = true ∧ powErr a = 0 := by
  refine ⟨?_, by unfold powErr; rw [ha]; rfl⟩
  unfold powP; rw [ha, if_pos rfl, ipw_def]
  exact pow_vld _ ha

theorem vld_one : Sg.vld 1 = true := by
  rw [vld_iff]
  exact ⟨by decide, by decide, by rw [Int.one_pow]; decide⟩

theorem vld_four : Sg.vld 4 = true := by
  have e : Sg.mp Sg.P 4 Sg.Q = 1 := by
    rw [Sg.mp_def]
    have h := Sg.mpf_eq Sg.P 30 4 Sg.Q 1 (by decide) (by decide)
    rw [Nat.one_mul] at h
    rw [← h]
    decide +kernel
  unfold Sg.vld
  show (decide ((1 : Int) ≤ 4) && (decide ((4 : Int) < 2147483579) && (Sg.mp Sg.P 4 Sg.Q == 1))) = true
  rw [e]; decide

end Go.Proofs.YtgacdmkhgllceaaGreatDoor

namespace Go.Proofs.YtgacdmkhgllceaaGreatDoor
open Go.RowKit Go.Shelf

/-- Is a share right, for so many rows? -/
def shareR (n : Nat) (row value : Int) : Bool := decide (0 ≤ row) && (decide (row < n) && numsQ [value])

set_option maxHeartbeats 400000 in
theorem right_any (vr vo : Value) (rows : List (List Int)) (r v : Int) (w : World) (hr : Rows2 w vr rows) :
    Calls Tryz.prog 130 #[.agg #[vr, vo], .agg #[I r, I v]] w fun e w' => e = .returned (.bool (shareR rows.length r v)) ∧ Below w.heap.size w w' := by
  obtain ⟨A, c, rfl, hm⟩ := hr.shape
  have BW := ((Below.refl w.heap.size w).alloc (Nat.le_refl _) (.cells #[.slice A rows.length c, vo] 25)).alloc (by simp) (.cells #[I r, I v] 81)
  have HB := Lib.hid BW
  clear BW hr
  by_cases h : 0 ≤ r
  · have g : decide (0 ≤ r) = true := decide_eq_true h
    by_cases h2 : r < rows.length
    · have g2 : decide (r < (rows.length : Int)) = true := decide_eq_true h2
      have E : Hid (shareR rows.length r v = numsQ [v]) := Lib.hid (by unfold shareR; rw [g, g2]; rfl)
      clear h h2
      go_enter Tryz.func130, Tryz.ntmps130
      go_wp2_with fail
      refine (numbers_any _ [v] _ (Ints.new _ [v] _ 1 3 #[I v] (by simp) rfl rfl (by simp))).mono ?_
      rintro e w' ⟨rfl, rfl⟩
      go_wp2
      go_ret
      exact ⟨ret_bool E.out.symm, HB.out.alloc (by simp; omega) _⟩
    · have g2 : decide (r < (rows.length : Int)) = false := decide_eq_false h2
      have E : Hid (shareR rows.length r v = false) := Lib.hid (by unfold shareR; rw [g, g2]; rfl)
      clear h h2
      go_enter Tryz.func130, Tryz.ntmps130
      go_wp2
      go_ret
      exact ⟨ret_bool E.out.symm, HB.out⟩
  · have g : decide (0 ≤ r) = false := decide_eq_false h
    have E : Hid (shareR rows.length r v = false) := Lib.hid (by unfold shareR; rw [g]; rfl)
    clear h
    go_enter Tryz.func130, Tryz.ntmps130
    go_wp2
    go_ret
    exact ⟨ret_bool E.out.symm, HB.out⟩

/-- What the share of a row has to fit. -/
noncomputable def pubStep (x : Int) (cj : Int × Int) : Int := mulP x (powP cj.1 cj.2)
noncomputable def pubP (commits row : List Int) : Int := (commits.zip row).foldl pubStep 1
/-- The error of a row. -/
noncomputable def pubErr (rows : List (List Int)) (owners commits : List Int) (row : Int) : Int :=
  if dealErr rows owners commits ≠ 0 then dealErr rows owners commits else if row < 0 then 1 else if (rows.length : Int) ≤ row then 1 else 0
noncomputable def pubVal (rows : List (List Int)) (owners commits : List Int) (row : Int) : Int :=
  if pubErr rows owners commits row ≠ 0 then 0 else pubP commits (rows.getD row.toNat [])

theorem pub_vld (l : List (Int × Int)) (h : ∀ x ∈ l, Sg.vld x.1 = true) : ∀ x, Sg.vld x = true → Sg.vld (l.foldl pubStep x) = true := by
  induction l with
  | nil => intro x hx; exact hx
  | cons a l ih =>
    intro x hx
    rw [List.foldl_cons]
    exact ih (fun y hy => h y (by simp [hy])) _ (mulP_vld hx (powP_vld _ (h a (by simp))).1).1

theorem zip_take_succ {α β : Type} {a : List α} {b : List β} {k : Nat} (ha : k < a.length) (hb : k < b.length) : (a.zip b).take (k + 1) = (a.zip b).take k ++ [(a[k], b[k])] := by
  rw [List.take_succ_eq_append_getElem (by rw [List.length_zip]; omega), List.getElem_zip]

/-- What a right program with commitments is. -/
theorem dealErr_zero {rows : List (List Int)} {owners commits : List Int} (h : dealErr rows owners commits = 0) :
    progErr rows owners = 0 ∧ commits.length = cols rows ∧ (∀ x ∈ commits, Sg.vld x = true) := by
  unfold dealErr at h
  by_cases h1 : progErr rows owners = 0
  · rw [if_neg (by rw [h1]; decide)] at h
    by_cases h2 : commits.length = cols rows
    · rw [if_neg (by rw [h2]; simp)] at h
      refine ⟨h1, h2, fun x hx => ?_⟩
      cases h3 : commits.any oddP with
      | true => rw [h3] at h; exact absurd h (by decide)
      | false => have := List.any_eq_false.1 h3 x hx; simpa [oddP] using this
    · rw [if_pos h2] at h; exact absurd h (by decide)
  · rw [if_pos h1] at h; exact absurd h h1

theorem progErr_zero {rows : List (List Int)} {owners : List Int} (h : progErr rows owners = 0) :
    rows.length ≤ 64 ∧ (∀ r ∈ rows, r.length ≤ 64) ∧ rows.length = owners.length ∧ ∀ k, (hk : k < rows.length) → rows[k].length = cols rows ∧ 0 < rows[k].length ∧ (∀ x ∈ rows[k], 0 ≤ x ∧ x < 1073741789) ∧ ∀ (ho : k < owners.length), 0 ≤ owners[k] ∧ owners[k] ≤ 63 := by
  unfold progErr at h
  by_cases h1 : 64 < rows.length
  · rw [if_pos h1] at h; exact absurd h (by decide)
  · rw [if_neg h1] at h
    cases h2 : rows.any (fun r => decide (64 < r.length)) with
    | true => rw [h2, if_pos rfl] at h; exact absurd h (by decide)
    | false =>
      rw [h2, if_neg (by decide)] at h
      by_cases h3 : rows.length = owners.length
      · rw [if_neg (by simp [h3])] at h
        cases h4 : (rows.zip owners).any (fun x => badRow (rows.headD []).length x.1 x.2) with
        | true => rw [h4, if_pos rfl] at h; exact absurd h (by decide)
        | false =>
          refine ⟨by omega, fun r hr => by have := List.any_eq_false.1 h2 r hr; simp at this; omega, h3, fun k hk => ?_⟩
          have hb := List.any_eq_false.1 h4 (rows[k], owners[k]) (by rw [← List.getElem_zip (h := by rw [List.length_zip]; omega)]; exact List.getElem_mem _)
          unfold badRow at hb
          simp only [Bool.or_eq_true, decide_eq_true_eq, not_or] at hb
          obtain ⟨b1, b2, b3, b4⟩ := hb
          refine ⟨?_, by omega, fun x hx => ?_, fun ho => ?_⟩
          · unfold cols; rw [if_neg (by omega)]; simpa using b2
          · have := List.any_eq_false.1 (by simpa using b4) x hx
            unfold oddQ at this
            simp at this; omega
          · unfold isP within at b3
            simp at b3; omega
      · rw [if_pos h3] at h; exact absurd h (by decide)

end Go.Proofs.YtgacdmkhgllceaaGreatDoor

namespace Go.Proofs.YtgacdmkhgllceaaGreatDoor
open Go.RowKit Go.Shelf

set_option maxHeartbeats 1000000 in
theorem public_any (vr vo vc : Value) (rows : List (List Int)) (owners commits : List Int) (row : Int) (w : World) (hr : Rows2 w vr rows) (ho : Ints w vo owners) (hk : Ints w vc commits) :
    Calls Tryz.prog 68 #[.agg #[vr, vo], vc, I row] w fun e w' => e = .returned (.tuple #[I (pubVal rows owners commits row), I (pubErr rows owners commits row)]) ∧ Below w.heap.size w w' := by
  obtain ⟨C, cc, rfl, hm⟩ := hk.shape
  obtain ⟨A, ca, rfl, hma⟩ := hr.shape
  have hra := hr.alloc (.cells #[.slice A rows.length ca, vo] 25)
  have hoa := ho.alloc (.cells #[.slice A rows.length ca, vo] 25)
  have hka := hk.alloc (.cells #[.slice A rows.length ca, vo] 25)
  have BW := (Below.refl w.heap.size w).alloc (Nat.le_refl _) (.cells #[.slice A rows.length ca, vo] 25)
  have HB := Lib.hid BW
  have HR := Lib.hid hra
  have HO := Lib.hid hoa
  have HK := Lib.hid hka
  clear BW hr ho hk hra hoa hka
  go_enter Tryz.func68, Tryz.ntmps68
  go_wp2_with fail
  refine (dealCheck_any _ _ _ rows owners commits _ HR.out HO.out HK.out).mono ?_
  rintro e w1 ⟨rfl, hb1⟩
  obtain ⟨hc1, hf1⟩ := bcell hb1
  have HB1 := Lib.hid (below_step HB.out hb1)
  have HR1 := Lib.hid (HR.out.below hb1)
  have HK1 := Lib.hid (HK.out.below hb1)
  have hs1 : w.heap.size < w1.heap.size := by have := hb1.size; simp at this; omega
  clear hb1
  by_cases q1 : dealErr rows owners commits = 0
  · have g1 : (dealErr rows owners commits != 0) = false := by rw [q1]; rfl
    have Q1 := Lib.hid q1
    clear q1
    by_cases q2 : row < 0
    · have g2 : decide (row < 0) = true := decide_eq_true q2
      have E : Hid (pubErr rows owners commits row = 1 ∧ pubVal rows owners commits row = 0) := Lib.hid (by
        have : pubErr rows owners commits row = 1 := by unfold pubErr; rw [if_neg (by rw [Q1.out]; decide), if_pos q2]
        exact ⟨this, by unfold pubVal; rw [this]; rfl⟩)
      clear q2
      go_wp2
      go_ret2
      exact ⟨ret_two (congrArg I E.out.2.symm) (congrArg I E.out.1.symm), HB1.out⟩
    · have g2 : decide (row < 0) = false := decide_eq_false q2
      by_cases q3 : (rows.length : Int) ≤ row
      · have g3 : decide ((rows.length : Int) ≤ row) = true := decide_eq_true q3
        have E : Hid (pubErr rows owners commits row = 1 ∧ pubVal rows owners commits row = 0) := Lib.hid (by
          have : pubErr rows owners commits row = 1 := by unfold pubErr; rw [if_neg (by rw [Q1.out]; decide), if_neg q2, if_pos q3]
          exact ⟨this, by unfold pubVal; rw [this]; rfl⟩)
        clear q2 q3
        go_wp2
        go_ret2
        exact ⟨ret_two (congrArg I E.out.2.symm) (congrArg I E.out.1.symm), HB1.out⟩
      · have g3 : decide ((rows.length : Int) ≤ row) = false := decide_eq_false q3
        obtain ⟨r, rfl⟩ := Int.eq_ofNat_of_zero_le (show 0 ≤ row by omega)
        have hrl : r < rows.length := by omega
        have g4 : decide (rows.length ≤ r) = false := decide_eq_false (by omega)
        clear g3
        have E : Hid (pubErr rows owners commits r = 0 ∧ pubVal rows owners commits r = pubP commits rows[r]) := Lib.hid (by
          have : pubErr rows owners commits r = 0 := by unfold pubErr; rw [if_neg (by rw [Q1.out]; decide), if_neg q2, if_neg q3]
          refine ⟨this, ?_⟩
          unfold pubVal; rw [if_neg (by rw [this]; decide), Int.toNat_natCast]
          simp [hrl])
        obtain ⟨z1, z2, z3⟩ := dealErr_zero Q1.out
        have z4 := (progErr_zero z1).2.2.2
        have z5 := (z4 r hrl).1
        have Z3 := Lib.hid z3
        have hlen : commits.length = rows[r].length := by omega
        have HL := Lib.hid hlen
        clear q2 q3 z1 z2 z3 z4 z5 hlen
        go_wp2
        go_loopw [6, 30] (fun x j wr => ∃ k : Nat, k ≤ commits.length ∧ j = I k ∧ x = I (((commits.zip rows[r]).take k).foldl pubStep 1) ∧ Hid (Below w1.heap.size w1 wr)) (fun _ j _ => commits.length - (intOf j).toNat)
        case atStart => exact ⟨0, Nat.zero_le _, rfl, rfl, Lib.hid (Below.refl _ _)⟩
        case round =>
          obtain ⟨k, hk, rfl, rfl, hbw⟩ := hrel
          by_cases hlt : k < commits.length
          · have hlt2 : k < rows[r].length := by have := HL.out; omega
            obtain ⟨hcw, hfw⟩ := bcell hbw.out
            obtain ⟨ad, u, e1, hcr, hu⟩ := (HR1.out.below hbw.out).at r hrl
            subst e1
            obtain ⟨A1, c1, rfl, hm1⟩ := hu.shape
            obtain ⟨bd, rfl, hce⟩ := hu.at k hlt2
            obtain ⟨cd, rfl, hcc⟩ := (HK1.out.below hbw.out).at k hlt
            have hvx : Sg.vld (((commits.zip rows[r]).take k).foldl pubStep 1) = true := pub_vld _ (fun x hx => Z3.out _ (List.of_mem_zip (List.mem_of_mem_take hx)).1) _ vld_one
            have hvc : Sg.vld commits[k] = true := Z3.out _ (List.getElem_mem _)
            have hpw := powP_vld rows[r][k] hvc
            have hml := mulP_vld hvx hpw.1
            have N : Hid ((((commits.zip rows[r]).take (k + 1)).foldl pubStep 1) = mulP (((commits.zip rows[r]).take k).foldl pubStep 1) (powP commits[k] rows[r][k])) := Lib.hid (by rw [zip_take_succ hlt hlt2, List.foldl_append]; rfl)
            have g4 : (powErr commits[k] != 0) = false := by rw [hpw.2]; rfl
            have g5 : (mulErr (((commits.zip rows[r]).take k).foldl pubStep 1) (powP commits[k] rows[r][k]) != 0) = false := by rw [hml.2.1]; rfl
            clear hvx hvc hpw hml hu
            generalize ((commits.zip rows[r]).take k).foldl pubStep 1 = x at *
            go_wp2_with fail
            refine (pow_any _ _ _).mono ?_
            rintro e w2 ⟨rfl, hb2⟩
            have HB2 := Lib.hid (hbw.out.trans (hb2.mono hbw.out.size))
            clear hb2
            go_wp2_with fail
            refine (mulP_any _ _ _).mono ?_
            rintro e w3 ⟨rfl, rfl⟩
            go_wp2
            go_roundw
            case rel => exact ⟨k + 1, by omega, by go_num, by rw [N.out], HB2⟩
            case measure => simp [intOf]; omega
          · have E2 : Hid (((commits.zip rows[r]).take k).foldl pubStep 1 = pubP commits rows[r]) := Lib.hid (by rw [List.take_of_length_le (by rw [List.length_zip]; omega)]; rfl)
            go_wp2
            go_ret2
            exact ⟨ret_two (congrArg I (E2.out.trans E.out.2.symm)) (congrArg I E.out.1.symm), HB1.out.trans (hbw.out.mono HB1.out.size)⟩
  · have g1 : (dealErr rows owners commits != 0) = true := bne_iff_ne.2 q1
    have E : Hid (pubErr rows owners commits row = dealErr rows owners commits ∧ pubVal rows owners commits row = 0) := Lib.hid (by
      have : pubErr rows owners commits row = dealErr rows owners commits := by unfold pubErr; rw [if_pos q1]
      exact ⟨this, by unfold pubVal; rw [this, if_pos q1]⟩)
    clear q1
    go_wp2
    go_ret2
    exact ⟨ret_two (congrArg I E.out.2.symm) (congrArg I E.out.1.symm), HB1.out⟩

end Go.Proofs.YtgacdmkhgllceaaGreatDoor

namespace Go.Proofs.YtgacdmkhgllceaaGreatDoor
open Go.RowKit Go.Shelf

theorem pubVal_ok {rows : List (List Int)} {owners commits : List Int} (h : dealErr rows owners commits = 0) (r : Nat) (hr : r < rows.length) :
    pubErr rows owners commits r = 0 ∧ pubVal rows owners commits r = pubP commits rows[r] := by
  have h1 : pubErr rows owners commits r = 0 := by unfold pubErr; rw [if_neg (by rw [h]; decide), if_neg (by omega), if_neg (by omega)]
  refine ⟨h1, ?_⟩
  unfold pubVal; rw [if_neg (by rw [h1]; decide), Int.toNat_natCast]
  simp [hr]

/-- The error of a share that is examined, and whether it fits. -/
noncomputable def fitErr (rows : List (List Int)) (owners commits : List Int) (r v : Int) : Int :=
  if dealErr rows owners commits ≠ 0 then dealErr rows owners commits else if shareR rows.length r v = true then 0 else 340
noncomputable def fitB (rows : List (List Int)) (owners commits : List Int) (r v : Int) : Bool :=
  if fitErr rows owners commits r v ≠ 0 then false else powP 4 v == pubP commits (rows.getD r.toNat [])

set_option maxHeartbeats 1000000 in
theorem dealFits_any (vr vo vc : Value) (rows : List (List Int)) (owners commits : List Int) (r v : Int) (w : World) (hr : Rows2 w vr rows) (ho : Ints w vo owners) (hk : Ints w vc commits) :
    Calls Tryz.prog 56 #[.agg #[vr, vo], vc, .agg #[I r, I v]] w fun e w' => e = .returned (.tuple #[.bool (fitB rows owners commits r v), I (fitErr rows owners commits r v)]) ∧ Below w.heap.size w w' := by
  have hra := (hr.alloc (.cells #[vr, vo] 25)).alloc (.cells #[I r, I v] 81)
  have hoa := (ho.alloc (.cells #[vr, vo] 25)).alloc (.cells #[I r, I v] 81)
  have hka := (hk.alloc (.cells #[vr, vo] 25)).alloc (.cells #[I r, I v] 81)
  have BW := ((Below.refl w.heap.size w).alloc (Nat.le_refl _) (.cells #[vr, vo] 25)).alloc (by simp) (.cells #[I r, I v] 81)
  have HB := Lib.hid BW
  have HR := Lib.hid hra
  have HO := Lib.hid hoa
  have HK := Lib.hid hka
  clear BW hr ho hk hra hoa hka
  go_enter Tryz.func56, Tryz.ntmps56
  go_wp2_with fail
  refine (dealCheck_any _ _ _ rows owners commits _ HR.out HO.out HK.out).mono ?_
  rintro e w1 ⟨rfl, hb1⟩
  obtain ⟨hc1, hf1⟩ := bcell hb1
  have HB1 := Lib.hid (below_step HB.out hb1)
  have HR1 := Lib.hid (HR.out.below hb1)
  have HO1 := Lib.hid (HO.out.below hb1)
  have HK1 := Lib.hid (HK.out.below hb1)
  have hs1 : w.heap.size + 1 < w1.heap.size := by have := hb1.size; simp at this; omega
  have hs1' : w.heap.size < w1.heap.size := by omega
  clear hb1
  by_cases q1 : dealErr rows owners commits = 0
  · have g1 : (dealErr rows owners commits != 0) = false := by rw [q1]; rfl
    have Q1 := Lib.hid q1
    clear q1
    go_wp2_with fail
    refine (right_any _ _ rows r v _ HR1.out).mono ?_
    rintro e w2 ⟨rfl, hb2⟩
    obtain ⟨hc2, hf2⟩ := bcell hb2
    have HB2 := Lib.hid (below_step HB1.out hb2)
    have HR2 := Lib.hid (HR1.out.below hb2)
    have HO2 := Lib.hid (HO1.out.below hb2)
    have HK2 := Lib.hid (HK1.out.below hb2)
    have hs2 : w.heap.size + 1 < w2.heap.size := by have := hb2.size; omega
    have hs2' : w.heap.size < w2.heap.size := by omega
    clear hb2
    cases q2 : shareR rows.length r v with
    | false =>
      have E : Hid (fitErr rows owners commits r v = 340 ∧ fitB rows owners commits r v = false) := Lib.hid (by
        have : fitErr rows owners commits r v = 340 := by unfold fitErr; rw [if_neg (by rw [Q1.out]; decide), if_neg (by rw [q2]; decide)]
        exact ⟨this, by unfold fitB; rw [this]; rfl⟩)
      clear q2
      go_wp2
      go_ret2
      exact ⟨ret_two (congrArg Value.bool E.out.2.symm) (congrArg I E.out.1.symm), HB2.out⟩
    | true =>
      have hq : 0 ≤ r ∧ r < rows.length := by unfold shareR at q2; simp at q2; exact ⟨q2.1, q2.2.1⟩
      obtain ⟨k, rfl⟩ := Int.eq_ofNat_of_zero_le hq.1
      have hkl : k < rows.length := by omega
      have E : Hid (fitErr rows owners commits k v = 0 ∧ fitB rows owners commits k v = (powP 4 v == pubP commits rows[k])) := Lib.hid (by
        have : fitErr rows owners commits k v = 0 := by unfold fitErr; rw [if_neg (by rw [Q1.out]; decide), if_pos q2]
        exact ⟨this, by unfold fitB; rw [if_neg (by rw [this]; decide), Int.toNat_natCast]; simp [hkl]⟩)
      have P := Lib.hid (pubVal_ok Q1.out k hkl)
      have g4 : powErr 4 = 0 := (powP_vld v vld_four).2
      have G4 := Lib.hid g4
      have g3 : (pubErr rows owners commits k != 0) = false := by rw [P.out.1]; rfl
      have g5 : (powErr 4 == 0) = true := by rw [g4]; rfl
      clear q2 hq g4
      go_wp2_with fail
      refine (public_any _ _ _ rows owners commits k _ HR2.out HO2.out HK2.out).mono ?_
      rintro e w3 ⟨rfl, hb3⟩
      obtain ⟨hc3, hf3⟩ := bcell hb3
      have HB3 := Lib.hid (below_step HB2.out hb3)
      clear hb3
      go_wp2_with fail
      refine (pow_any 4 v _).mono ?_
      rintro e w4 ⟨rfl, hb4⟩
      have HB4 := Lib.hid (below_step HB3.out hb4)
      clear hb4
      go_wp2
      go_ret2
      exact ⟨ret_two (congrArg Value.bool (by rw [E.out.2, P.out.2])) (congrArg I (G4.out.trans E.out.1.symm)), HB4.out⟩
  · have g1 : (dealErr rows owners commits != 0) = true := bne_iff_ne.2 q1
    have E : Hid (fitErr rows owners commits r v = dealErr rows owners commits ∧ fitB rows owners commits r v = false) := Lib.hid (by
      have : fitErr rows owners commits r v = dealErr rows owners commits := by unfold fitErr; rw [if_pos q1]
      exact ⟨this, by unfold fitB; rw [this, if_pos q1]⟩)
    clear q1
    go_wp2
    go_ret2
    exact ⟨ret_two (congrArg Value.bool E.out.2.symm) (congrArg I E.out.1.symm), HB1.out⟩

/-- A sum of products modulo Q. -/
def dotStep (s : Int) (ab : Int × Int) : Int := add s (mul ab.1 ab.2)
def dot (a b : List Int) : Int := (a.zip b).foldl dotStep 0

theorem times1_any (bv : Nat) (vb : Value) (b : List Int) (i : Nat) (n : Int) (w : World) (hc : w.cell? ⟨bv, 0, none⟩ = some vb) (hb : Ints w vb b) (hi : i < b.length) :
    Calls Tryz.prog 160 #[I i, I n, .pointer (some ⟨bv, 0, none⟩)] w fun e w' => e = .returned (I (mul n b[i])) ∧ w = w' := by
  obtain ⟨A, c, rfl, hm⟩ := hb.shape
  obtain ⟨ad, rfl, hx⟩ := hb.at i hi
  clear hb
  go_enter Tryz.func160, Tryz.ntmps160
  go_wp2_with fail
  refine (mul_any n b[i] _).mono ?_
  rintro e w' ⟨rfl, rfl⟩
  go_wp2
  go_ret
  exact ⟨rfl, rfl⟩

set_option maxHeartbeats 400000 in
theorem sumTimes_any (bv : Nat) (va vb : Value) (a b : List Int) (w : World) (hc : w.cell? ⟨bv, 0, none⟩ = some vb) (ha : Ints w va a) (hb : Ints w vb b) (hl : a.length ≤ b.length) :
    Calls Tryz.prog 159 #[va, .func (.func 160) #[] #[.pointer (some ⟨bv, 0, none⟩)]] w fun e w' => e = .returned (I (dot a b)) ∧ Below w.heap.size w w' := by
  obtain ⟨A, c, rfl, hm⟩ := ha.shape
  have HA := Lib.hid ha
  have HB := Lib.hid hb
  have HC := Lib.hid hc
  have HL := Lib.hid hl
  clear ha hb hc hl
  go_enter Tryz.func159, Tryz.ntmps159
  go_wp2
  go_loopw [4, 9] (fun s j wr => ∃ k : Nat, k ≤ a.length ∧ j = I k ∧ s = I (((a.zip b).take k).foldl dotStep 0) ∧ Hid (Below w.heap.size w wr)) (fun _ j _ => a.length - (intOf j).toNat)
  case atStart => exact ⟨0, Nat.zero_le _, rfl, rfl, Lib.hid (Below.refl _ _)⟩
  case round =>
    obtain ⟨k, hk, rfl, rfl, hbw⟩ := hrel
    by_cases hlt : k < a.length
    · have hlb : k < b.length := by have := HL.out; omega
      obtain ⟨ad, rfl, hx⟩ := (HA.out.below hbw.out).at k hlt
      have N : Hid (((a.zip b).take (k + 1)).foldl dotStep 0 = add (((a.zip b).take k).foldl dotStep 0) (mul a[k] b[k])) := Lib.hid (by rw [zip_take_succ hlt hlb, List.foldl_append]; rfl)
      generalize ((a.zip b).take k).foldl dotStep 0 = s at *
      go_wp2_with fail
      refine (times1_any bv vb b k a[k] _ ((hbw.out.cell (cell_old HC.out)).trans HC.out) (HB.out.below hbw.out) hlb).mono ?_
      rintro e w' ⟨rfl, rfl⟩
      go_wp2_with fail
      refine (add_any _ _ _).mono ?_
      rintro e w2 ⟨rfl, hb2⟩
      have HB2 := Lib.hid (hbw.out.trans (hb2.mono hbw.out.size))
      clear hb2
      go_wp2
      go_roundw
      case rel => exact ⟨k + 1, by omega, by go_num, by rw [N.out], HB2⟩
      case measure => simp [intOf]; omega
    · have E : Hid (((a.zip b).take k).foldl dotStep 0 = dot a b) := Lib.hid (by rw [List.take_of_length_le (by rw [List.length_zip]; omega)]; rfl)
      go_wp2
      go_ret
      exact ⟨ret_int E.out, hbw.out⟩

theorem times_any (va vb : Value) (a b : List Int) (w : World) (ha : Ints w va a) (hb : Ints w vb b) (hl : a.length ≤ b.length) :
    Calls Tryz.prog 110 #[va, vb] w fun e w' => e = .returned (I (dot a b)) ∧ Below w.heap.size w w' := by
  obtain ⟨B, cb, rfl, hmb⟩ := hb.shape
  have HA := Lib.hid (ha.alloc (.cells #[.slice B b.length cb] 23))
  have HB := Lib.hid (hb.alloc (.cells #[.slice B b.length cb] 23))
  have BW := Lib.hid ((Below.refl w.heap.size w).alloc (Nat.le_refl _) (.cells #[.slice B b.length cb] 23))
  have HC := Lib.hid (new_cell w (.slice B b.length cb) 23 _ rfl).1
  clear ha hb
  go_enter Tryz.func110, Tryz.ntmps110
  go_wp2_with fail
  refine (sumTimes_any _ _ _ a b _ HC.out HA.out HB.out hl).mono ?_
  rintro e w2 ⟨rfl, hb2⟩
  have HB2 := Lib.hid (below_step BW.out hb2)
  clear hb2
  go_wp2
  go_ret
  exact ⟨rfl, HB2.out⟩

end Go.Proofs.YtgacdmkhgllceaaGreatDoor
