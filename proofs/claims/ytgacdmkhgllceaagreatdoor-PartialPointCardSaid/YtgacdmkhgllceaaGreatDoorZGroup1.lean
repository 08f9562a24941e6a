import Derived.Test.YtgacdmkhgllceaaGreatDoorZHead
import Derived.Test.YtgacdmkhgllceaaGreatDoorZMSum
import Derived.Test.YtgacdmkhgllceaaGreatDoorZRange
import Derived.Laws.BitsLemmas
namespace Go.Proofs.YtgacdmkhgllceaaGreatDoor
open Go.RowKit

/-- What holds at the head of a round: the sign g of a is that of x over n, turned as t says. -/
structure VRel (p g x n : Nat) (t : Bool) : Prop where
  x1 : 1 ≤ x
  x2 : x < p
  n2 : n ≤ p
  odd : n % 2 = 1
  cop : Nat.Coprime n x
  sign : (g + Sg.gs n x + (if t then 0 else 1)) % 2 = 0

theorem VRel.start {p g b : Nat} (hg : g = Sg.gs p b) (hp : p % 2 = 1) (hc : Nat.Coprime p b) (h1 : 1 ≤ b) (h2 : b < p) : VRel p g b p true := by
  refine ⟨h1, h2, Nat.le_refl _, hp, hc, ?_⟩
  rw [← hg, if_pos rfl]; omega

theorem VRel.half {p g x n : Nat} {t : Bool} (h : VRel p g x n t) (hx : x % 2 = 0) (hn : n % 8 = 3 ∨ n % 8 = 5) : VRel p g (x / 2) n (!t) := by
  obtain ⟨h1, h2, h3, h4, h5, h6⟩ := h
  obtain ⟨g1, g2⟩ := Sg.half_step h4 hx h5
  rw [if_pos hn] at g2
  refine ⟨by omega, by omega, h3, h4, g1, ?_⟩
  cases t <;> simp at h6 ⊢ <;> omega

theorem VRel.half' {p g x n : Nat} {t : Bool} (h : VRel p g x n t) (hx : x % 2 = 0) (hn : ¬ (n % 8 = 3 ∨ n % 8 = 5)) : VRel p g (x / 2) n t := by
  obtain ⟨h1, h2, h3, h4, h5, h6⟩ := h
  obtain ⟨g1, g2⟩ := Sg.half_step h4 hx h5
  rw [if_neg hn] at g2
  refine ⟨by omega, by omega, h3, h4, g1, ?_⟩
  cases t <;> simp at h6 ⊢ <;> omega

theorem VRel.swap {p g x n : Nat} {t : Bool} (h : VRel p g x n t) (hx : x % 2 = 1) (h1x : 1 < x) (hc : x % 4 = 3 ∧ n % 4 = 3) : VRel p g (n % x) x (!t) := by
  obtain ⟨h1, h2, h3, h4, h5, h6⟩ := h
  obtain ⟨g1, g2⟩ := Sg.swap_step h4 hx h5
  have h7 := Nat.mod_lt n (show x > 0 by omega)
  rw [if_pos hc] at g2
  refine ⟨Sg.mod_pos h1x h5, by omega, by omega, hx, g1, ?_⟩
  cases t <;> simp at h6 ⊢ <;> omega

theorem VRel.swap' {p g x n : Nat} {t : Bool} (h : VRel p g x n t) (hx : x % 2 = 1) (h1x : 1 < x) (hc : ¬ (x % 4 = 3 ∧ n % 4 = 3)) : VRel p g (n % x) x t := by
  obtain ⟨h1, h2, h3, h4, h5, h6⟩ := h
  obtain ⟨g1, g2⟩ := Sg.swap_step h4 hx h5
  have h7 := Nat.mod_lt n (show x > 0 by omega)
  rw [if_neg hc] at g2
  refine ⟨Sg.mod_pos h1x h5, by omega, by omega, hx, g1, ?_⟩
  cases t <;> simp at h6 ⊢ <;> omega

theorem VRel.done {p g n : Nat} {t : Bool} (h : VRel p g 1 n t) : t = decide (g % 2 = 0) := by
  obtain ⟨_, _, _, _, _, h6⟩ := h
  rw [Sg.gs_one] at h6
  cases t <;> simp at h6 ⊢ <;> omega

set_option maxHeartbeats 400000 in
theorem valid_any (a : Int) (w : World) :
    Calls Tryz.prog 46 #[I a] w fun e w' => e = .returned (.bool (Sg.vld a)) ∧ w = w' := by
  by_cases ha : 1 ≤ a ∧ a < 2147483579
  · obtain ⟨ha1, ha2⟩ := ha
    obtain ⟨b, rfl⟩ := Int.eq_ofNat_of_zero_le (show 0 ≤ a by omega)
    have g1 : decide ((b : Int) < 1) = false := decide_eq_false (by omega)
    have g2 : decide (2147483579 ≤ (b : Int)) = false := decide_eq_false (by omega)
    obtain ⟨p, hp⟩ : ∃ p, p = Sg.P := ⟨_, rfl⟩
    obtain ⟨g, hg⟩ : ∃ g, g = Sg.gs p b := ⟨_, rfl⟩
    have hb1 : 1 ≤ b := by omega
    have hb2 : b < p := by rw [hp]; show b < 2147483579; omega
    have hv : Sg.vld b = decide (g % 2 = 0) := by rw [hg, hp]; exact Sg.vld_of_gs hb1 (by rw [← hp]; exact hb2)
    have HV := Lib.hid hv
    have HS := Lib.hid (VRel.start hg (by rw [hp]; rfl) (by rw [hp]; exact Sg.prime_P.2 b hb1 (by rw [← hp]; exact hb2)) hb1 hb2)
    have HP := Lib.hid hp
    have HL : Hid (p ≤ 2147483579) := Lib.hid (by rw [hp]; exact Nat.le_refl _)
    clear ha1 ha2 hp hg hb1 hb2 hv
    go_enter Tryz.func46, Tryz.ntmps46
    go_wp2
    go_step3
    go_wp2
    go_step3
    go_wp2
    clear g1 g2
    go_loop [0, 3, 4] (fun u v s => ∃ x n : Nat, ∃ t : Bool, u = I x ∧ v = I n ∧ s = .bool t ∧ Hid (VRel p g x n t)) (fun u _ _ => (intOf u).toNat)
    case atStart => exact ⟨b, p, true, rfl, by rw [HP.out]; rfl, rfl, HS⟩
    case round =>
      obtain ⟨x, n, t, rfl, rfl, rfl, hr⟩ := hrel
      by_cases hx : 1 < x
      · have g1 : decide ((1 : Int) < x) = true := decide_eq_true (by omega)
        have HX := Lib.hid hx
        have hn0 : (0 : Int) ≤ n := by omega
        clear hx
        go_wp2
        clear g1
        go_loop [0, 4] (fun u s => ∃ y : Nat, ∃ t : Bool, u = I y ∧ s = .bool t ∧ Hid (VRel p g y n t ∧ y ≤ x)) (fun u _ => (intOf u).toNat)
        case atStart => exact ⟨x, t, rfl, rfl, Lib.hid ⟨hr.out, Nat.le_refl _⟩⟩
        case round =>
          obtain ⟨y, t, rfl, rfl, hy⟩ := hrel
          have hy0 : (0 : Int) ≤ y := by omega
          have hyb : (y : Int) ≤ 9223372036854775807 := by have h1 := hy.out.1.x2; have h2 := HL.out; omega
          have hnb : (n : Int) ≤ 9223372036854775807 := by have h1 := hy.out.1.n2; have h2 := HL.out; omega
          by_cases hp : y % 2 = 0
          · have g1 : ((y : Int) % 2 == 0) = true := beq_iff_eq.2 (by omega)
            have hy1 := hy.out.1.x1
            by_cases hq : n % 8 = 3
            · have g2 : ((n : Int) % 8 == 3) = true := beq_iff_eq.2 (by omega)
              have HR : Hid (VRel p g (y / 2) n (!t) ∧ y / 2 ≤ x ∧ y / 2 < y) := Lib.hid ⟨hy.out.1.half hp (.inl hq), by have := hy.out.2; omega, by omega⟩
              clear hp hq hy1
              go_wp2
              go_round
              case rel => exact ⟨y / 2, !t, rfl, rfl, Lib.hid ⟨HR.out.1, HR.out.2.1⟩⟩
              case measure => have := HR.out.2.2; simp [intOf]; omega
            · by_cases hq5 : n % 8 = 5
              · have g2 : ((n : Int) % 8 == 3) = false := beq_eq_false_iff_ne.2 (by omega)
                have g3 : ((n : Int) % 8 == 5) = true := beq_iff_eq.2 (by omega)
                have HR : Hid (VRel p g (y / 2) n (!t) ∧ y / 2 ≤ x ∧ y / 2 < y) := Lib.hid ⟨hy.out.1.half hp (.inr hq5), by have := hy.out.2; omega, by omega⟩
                clear hp hq hq5 hy1
                go_wp2
                go_round
                case rel => exact ⟨y / 2, !t, rfl, rfl, Lib.hid ⟨HR.out.1, HR.out.2.1⟩⟩
                case measure => have := HR.out.2.2; simp [intOf]; omega
              · have g2 : ((n : Int) % 8 == 3) = false := beq_eq_false_iff_ne.2 (by omega)
                have g3 : ((n : Int) % 8 == 5) = false := beq_eq_false_iff_ne.2 (by omega)
                have HR : Hid (VRel p g (y / 2) n t ∧ y / 2 ≤ x ∧ y / 2 < y) := Lib.hid ⟨hy.out.1.half' hp (by omega), by have := hy.out.2; omega, by omega⟩
                clear hp hq hq5 hy1
                go_wp2
                go_round
                case rel => exact ⟨y / 2, t, rfl, rfl, Lib.hid ⟨HR.out.1, HR.out.2.1⟩⟩
                case measure => have := HR.out.2.2; simp [intOf]; omega
          · have g1 : ((y : Int) % 2 == 0) = false := beq_eq_false_iff_ne.2 (by omega)
            by_cases h1 : y = 1
            · subst h1
              have HD := Lib.hid hy.out.1.done
              clear hp
              go_wp2
              go_ret
              exact ⟨ret_bool (HD.out.trans HV.out.symm), rfl⟩
            · have g2 : ((y : Int) == 1) = false := beq_eq_false_iff_ne.2 (by omega)
              have hn0 : (0 : Int) ≤ n := by omega
              have hyp : (1 : Int) ≤ y := by omega
              have hy1 := hy.out.1.x1
              have hy2 := hy.out.2
              have hlt : n % y < y := Nat.mod_lt _ (by omega)
              by_cases hq : y % 4 = 3 ∧ n % 4 = 3
              · have g3 : ((y : Int) % 4 == 3) = true := beq_iff_eq.2 (by omega)
                have g4 : ((n : Int) % 4 == 3) = true := beq_iff_eq.2 (by omega)
                have HR : Hid (VRel p g (n % y) y (!t) ∧ n % y < x) := Lib.hid ⟨hy.out.1.swap (by omega) (by omega) hq, by omega⟩
                clear hp h1 hy1 hy2 hlt hq
                go_wp2
                go_round
                case rel => exact ⟨n % y, y, (!t), rfl, rfl, rfl, Lib.hid HR.out.1⟩
                case measure => have := HR.out.2; simp [intOf]; omega
              · by_cases hq3 : y % 4 = 3
                · have g3 : ((y : Int) % 4 == 3) = true := beq_iff_eq.2 (by omega)
                  have g4 : ((n : Int) % 4 == 3) = false := beq_eq_false_iff_ne.2 (by omega)
                  have HR : Hid (VRel p g (n % y) y t ∧ n % y < x) := Lib.hid ⟨hy.out.1.swap' (by omega) (by omega) hq, by omega⟩
                  clear hp h1 hy1 hy2 hlt hq hq3
                  go_wp2
                  go_round
                  case rel => exact ⟨n % y, y, t, rfl, rfl, rfl, Lib.hid HR.out.1⟩
                  case measure => have := HR.out.2; simp [intOf]; omega
                · have g3 : ((y : Int) % 4 == 3) = false := beq_eq_false_iff_ne.2 (by omega)
                  have HR : Hid (VRel p g (n % y) y t ∧ n % y < x) := Lib.hid ⟨hy.out.1.swap' (by omega) (by omega) hq, by omega⟩
                  clear hp h1 hy1 hy2 hlt hq hq3
                  go_wp2
                  go_round
                  case rel => exact ⟨n % y, y, t, rfl, rfl, rfl, Lib.hid HR.out.1⟩
                  case measure => have := HR.out.2; simp [intOf]; omega
      · have g1 : decide ((1 : Int) < x) = false := decide_eq_false (by omega)
        have h1 := hr.out.x1
        obtain rfl : x = 1 := by omega
        have HD := Lib.hid hr.out.done
        clear hx h1
        go_wp2

        go_ret
        exact ⟨ret_bool (HD.out.trans HV.out.symm), rfl⟩
  · have hv : Sg.vld a = false := by
      unfold Sg.vld
      by_cases h1 : 1 ≤ a
      · have : ¬ a < 2147483579 := fun h => ha ⟨h1, h⟩
        rw [decide_eq_false this]; simp
      · rw [decide_eq_false h1]; rfl
    have HV := Lib.hid hv
    clear hv
    by_cases h1 : a < 1
    · have g1 : decide (a < 1) = true := decide_eq_true h1
      clear h1 ha
      go_enter Tryz.func46, Tryz.ntmps46
      go_wp2
      go_step3
      go_wp2
      first | rw [Exit.noGoto_ret] | skip
      go_ret
      exact ⟨ret_bool HV.out.symm, rfl⟩
    · have g1 : decide (a < 1) = false := decide_eq_false h1
      have g2 : decide (2147483579 ≤ a) = true := decide_eq_true (by omega)
      clear h1 ha
      go_enter Tryz.func46, Tryz.ntmps46
      go_wp2
      go_step3
      go_wp2
      first | rw [Exit.noGoto_ret] | skip
      go_ret
      exact ⟨ret_bool HV.out.symm, rfl⟩
end Go.Proofs.YtgacdmkhgllceaaGreatDoor

namespace Go.Proofs.YtgacdmkhgllceaaGreatDoor
open Go.RowKit

/-- A number modulo Q. -/
def md (n : Int) : Int := n % 1073741789

theorem md_bd (n : Int) : 0 ≤ md n ∧ md n < 1073741789 := by unfold md; omega

theorem mod_any (a : Int) (w : World) :
    Calls Tryz.prog 82 #[I a] w fun e w' => e = .returned (I (md a)) ∧ w = w' := by
  have hb := Int.tmod_lt_of_pos a (show (0 : Int) < 1073741789 by decide)
  have hb2 := Int.lt_tmod_of_pos a (show (0 : Int) < 1073741789 by decide)
  have ht : a.tmod 1073741789 = md a ∨ a.tmod 1073741789 + 1073741789 = md a := by
    unfold md; rw [Int.tmod_eq_emod]; split <;> simp <;> omega
  have hm := md_bd a
  by_cases c : Int.tmod a 1073741789 < 0
  · have g : decide (Int.tmod a 1073741789 < 0) = true := decide_eq_true c
    have e : wrap64 (a.tmod 1073741789 + 1073741789) = md a := by unfold wrap64; omega
    have E := Lib.hid e
    clear c e ht hb hb2 hm
    go_enter Tryz.func82, Tryz.ntmps82
    go_wp2
    go_ret
    exact ⟨ret_int E.out, rfl⟩
  · have g : decide (Int.tmod a 1073741789 < 0) = false := decide_eq_false c
    have e : a.tmod 1073741789 = md a := by omega
    have E := Lib.hid e
    clear c e ht hb hb2 hm
    go_enter Tryz.func82, Tryz.ntmps82
    go_wp2
    go_ret
    exact ⟨ret_int E.out, rfl⟩

/-- A product modulo Q. -/
def mul (a b : Int) : Int := md (a * b)
/-- A sum modulo Q. -/
def add (a b : Int) : Int := md (a + b)

theorem mulmod (a b : Int) : (wrap64 (md a * md b)).tmod 1073741789 = mul a b := by
  obtain ⟨h1, h2⟩ := md_bd a
  obtain ⟨h3, h4⟩ := md_bd b
  have h5 : 0 ≤ md a * md b := Int.mul_nonneg h1 h3
  have h6 : md a * md b ≤ 1073741788 * 1073741788 := Int.mul_le_mul (by omega) (by omega) h3 (by decide)
  have h7 : wrap64 (md a * md b) = md a * md b := by unfold wrap64; omega
  rw [h7, Int.tmod_eq_emod_of_nonneg h5]
  unfold mul md
  rw [← Int.mul_emod]

theorem mul_any (a b : Int) (w : World) :
    Calls Tryz.prog 29 #[I a, I b] w fun e w' => e = .returned (I (mul a b)) ∧ w = w' := by
  go_enter Tryz.func29, Tryz.ntmps29
  go_wp2_with fail
  refine (mod_any a _).mono ?_
  rintro e w' ⟨rfl, rfl⟩
  go_wp2_with fail
  refine (mod_any b _).mono ?_
  rintro e w' ⟨rfl, rfl⟩
  go_wp2
  go_ret
  exact ⟨ret_int (mulmod a b), rfl⟩

theorem take_sum {xs : List Int} {k : Nat} (h : k < xs.length) : (xs.take (k + 1)).sum = (xs.take k).sum + xs[k] := by
  rw [List.take_succ_eq_append_getElem h, List.sum_append]; simp

theorem sum_step (s n : Int) : (wrap64 (md s + md n)).tmod 1073741789 = md (s + n) := by
  obtain ⟨h1, h2⟩ := md_bd s
  obtain ⟨h3, h4⟩ := md_bd n
  have h7 : wrap64 (md s + md n) = md s + md n := by unfold wrap64; omega
  rw [h7, Int.tmod_eq_emod_of_nonneg (by omega)]
  unfold md
  rw [← Int.add_emod]

theorem sum_any (v : Value) (xs : List Int) (w : World) (hv : Ints w v xs) :
    Calls Tryz.prog 81 #[v] w fun e w' => e = .returned (I (md xs.sum)) ∧ w = w' := by
  obtain ⟨A, c, rfl, hm⟩ := hv.shape
  have HV := Lib.hid hv
  clear hv
  go_enter Tryz.func81, Tryz.ntmps81
  go_wp2
  go_loop [3, 8] (fun x i => ∃ k : Nat, k ≤ xs.length ∧ i = I k ∧ x = I (md (xs.take k).sum)) (fun _ i => xs.length - (intOf i).toNat)
  case atStart => exact ⟨0, Nat.zero_le _, rfl, rfl⟩
  case round =>
    obtain ⟨k, hk, rfl, rfl⟩ := hrel
    by_cases hlt : k < xs.length
    · obtain ⟨ad, rfl, hc⟩ := HV.out.at k hlt
      have HS := Lib.hid (take_sum hlt)
      go_wp2_with fail
      refine (mod_any _ _).mono ?_
      rintro e w' ⟨rfl, rfl⟩
      go_wp2
      go_round
      case rel => exact ⟨k + 1, by omega, by go_num, by rw [HS.out]; exact congrArg I (sum_step _ _)⟩
      case measure => simp [intOf]; omega
    · go_wp2
      go_ret
      exact ⟨ret_int (by rw [List.take_of_length_le (by omega)]), rfl⟩

theorem add_any (a b : Int) (w : World) :
    Calls Tryz.prog 28 #[I a, I b] w fun e w' => e = .returned (I (add a b)) ∧ Below w.heap.size w w' := by
  go_enter Tryz.func28, Tryz.ntmps28
  go_wp2_with fail
  refine (sum_any _ [a, b] _ (Ints.new w [a, b] _ 2 3 _ rfl rfl rfl (by simp))).mono ?_
  rintro e w' ⟨rfl, rfl⟩
  go_wp2
  go_ret
  exact ⟨ret_int (by simp [add]), (Below.refl _ w).alloc (Nat.le_refl _) _⟩

/-- Two less than Q. -/
def eQ : Nat := 1073741787
/-- The power of a number modulo Q. -/
def pwQ (a : Int) (n : Nat) : Int := md (a ^ n)
/-- The inverse of a number modulo Q; 0 of 0. -/
def inv (a : Int) : Int := if md a = 0 then 0 else pwQ a eQ

theorem mul_pow (x s : Int) (m n : Nat) : mul (md (s * x ^ m)) (pwQ x n) = md (s * x ^ (m + n)) := by
  unfold mul pwQ md
  rw [← Int.mul_emod, Int.mul_assoc, Int.pow_add]

/-- The state of the loop: x times square to the power of left is the whole. -/
def InvRel (a : Int) (left : Nat) (x sq : Int) : Prop := md (x * sq ^ left) = md (a ^ eQ) ∧ 0 ≤ x ∧ x < 1073741789

theorem md_md (a : Int) : md (md a) = md a := by unfold md; exact Int.emod_emod_of_dvd _ (Int.dvd_refl _)
theorem md_mul_left (a b : Int) : md (md a * b) = md (a * b) := by unfold md; rw [Int.mul_emod, Int.emod_emod_of_dvd _ (Int.dvd_refl _), ← Int.mul_emod]
theorem md_mul_right (a b : Int) : md (a * md b) = md (a * b) := by rw [Int.mul_comm, md_mul_left, Int.mul_comm]
theorem md_pow (a : Int) (n : Nat) : md (md a ^ n) = md (a ^ n) := by
  induction n with
  | zero => simp
  | succ n ih => rw [Int.pow_succ, Int.pow_succ, ← md_mul_left, ih, md_mul_left, md_mul_right]

theorem InvRel.odd {a : Int} {left : Nat} {x sq : Int} (h : InvRel a left x sq) (hl : left % 2 = 1) : InvRel a (left / 2) (mul x sq) (mul sq sq) := by
  refine ⟨?_, md_bd _⟩
  rw [← h.1]
  unfold mul
  rw [md_mul_left, ← md_mul_right, md_pow, md_mul_right]
  congr 1
  have e : left = 2 * (left / 2) + 1 := by omega
  have e2 : (sq * sq) ^ (left / 2) = sq ^ (2 * (left / 2)) := by rw [Int.pow_mul, Int.pow_succ, Int.pow_succ, Int.pow_zero, Int.one_mul]
  have e3 : sq ^ left = sq ^ (2 * (left / 2)) * sq := by rw [← Int.pow_succ]; exact congrArg (sq ^ ·) e
  rw [e2, e3, Int.mul_assoc, Int.mul_comm sq]

theorem InvRel.even {a : Int} {left : Nat} {x sq : Int} (h : InvRel a left x sq) (hl : left % 2 = 0) : InvRel a (left / 2) x (mul sq sq) := by
  refine ⟨?_, h.2⟩
  rw [← h.1]
  unfold mul
  rw [← md_mul_right, md_pow, md_mul_right]
  congr 1
  have e : left = 2 * (left / 2) := by omega
  have e2 : (sq * sq) ^ (left / 2) = sq ^ (2 * (left / 2)) := by rw [Int.pow_mul, Int.pow_succ, Int.pow_succ, Int.pow_zero, Int.one_mul]
  rw [e2, ← e]

theorem InvRel.done {a x sq : Int} (h : InvRel a 0 x sq) : x = pwQ a eQ := by
  obtain ⟨h1, h2, h3⟩ := h
  unfold pwQ
  rw [← h1]
  simp [md]
  omega

/-- The error of an inverse. -/
def invErr (a : Int) : Int := if md a = 0 then 90 else 0

set_option maxHeartbeats 400000 in
theorem inverse_any (a : Int) (w : World) :
    Calls Tryz.prog 201 #[I a] w fun e w' => e = .returned (.tuple #[I (inv a), I (invErr a)]) ∧ w = w' := by
  by_cases h0 : md a = 0
  · have g : (md a == 0) = true := beq_iff_eq.2 h0
    have E : Hid (inv a = 0 ∧ invErr a = 90) := Lib.hid ⟨by unfold inv; rw [if_pos h0], by unfold invErr; rw [if_pos h0]⟩
    clear h0
    go_enter Tryz.func201, Tryz.ntmps201
    go_wp2
    go_step3
    go_wp2_with fail
    refine (mod_any a _).mono ?_
    rintro e w' ⟨rfl, rfl⟩
    go_wp2
    first | rw [Exit.noGoto_ret] | skip
    go_ret2
    exact ⟨ret_two (congrArg I E.out.1.symm) (congrArg I E.out.2.symm), rfl⟩
  · have g : (md a == 0) = false := beq_eq_false_iff_ne.2 h0
    have E : Hid (inv a = pwQ a eQ ∧ invErr a = 0) := Lib.hid ⟨by unfold inv; rw [if_neg h0], by unfold invErr; rw [if_neg h0]⟩
    clear h0
    go_enter Tryz.func201, Tryz.ntmps201
    go_wp2
    go_step3
    go_wp2_with fail
    refine (mod_any a _).mono ?_
    rintro e w' ⟨rfl, rfl⟩
    go_wp2
    go_step3
    go_wp2
    clear g
    go_loop [2, 4, 5] (fun x l q => ∃ y z : Int, ∃ n : Nat, x = I y ∧ l = I n ∧ q = I z ∧ n ≤ 1073741787 ∧ Hid (InvRel a n y z)) (fun _ l _ => (intOf l).toNat)
    case atStart => exact ⟨1, a, eQ, rfl, rfl, rfl, Nat.le_refl _, Lib.hid ⟨by rw [Int.one_mul], by decide, by decide⟩⟩
    case round =>
      obtain ⟨y, z, n, rfl, rfl, rfl, hn, hr⟩ := hrel
      have hn0 : (0 : Int) ≤ n := by omega
      have hnb : (n : Int) ≤ 9223372036854775807 := by omega
      by_cases hz : n = 0
      · subst hz
        have HD := Lib.hid hr.out.done
        go_wp2
        go_ret2
        exact ⟨ret_two (congrArg I (HD.out.trans E.out.1.symm)) (congrArg I E.out.2.symm), rfl⟩
      · have g1 : ((n : Int) == 0) = false := beq_eq_false_iff_ne.2 (by omega)
        by_cases ho : n % 2 = 1
        · have g2 : ((n : Int) % 2 == 1) = true := beq_iff_eq.2 (by omega)
          have HR : Hid (InvRel a (n / 2) (mul y z) (mul z z) ∧ n / 2 < n ∧ n / 2 ≤ 1073741787) := Lib.hid ⟨hr.out.odd ho, by omega, by omega⟩
          clear hz ho hn
          go_wp2_with fail
          refine (mul_any _ _ _).mono ?_
          rintro e w' ⟨rfl, rfl⟩
          go_wp2_with fail
          refine (mul_any _ _ _).mono ?_
          rintro e w' ⟨rfl, rfl⟩
          go_wp2
          go_round
          case rel => exact ⟨mul y z, mul z z, n / 2, rfl, rfl, rfl, HR.out.2.2, Lib.hid HR.out.1⟩
          case measure => have := HR.out.2.1; simp [intOf]; omega
        · have g2 : ((n : Int) % 2 == 1) = false := beq_eq_false_iff_ne.2 (by omega)
          have HR : Hid (InvRel a (n / 2) y (mul z z) ∧ n / 2 < n ∧ n / 2 ≤ 1073741787) := Lib.hid ⟨hr.out.even (by omega), by omega, by omega⟩
          clear hz ho hn
          go_wp2_with fail
          refine (mul_any _ _ _).mono ?_
          rintro e w' ⟨rfl, rfl⟩
          go_wp2
          go_round
          case rel => exact ⟨y, mul z z, n / 2, rfl, rfl, rfl, HR.out.2.2, Lib.hid HR.out.1⟩
          case measure => have := HR.out.2.1; simp [intOf]; omega

end Go.Proofs.YtgacdmkhgllceaaGreatDoor

namespace Go.Proofs.YtgacdmkhgllceaaGreatDoor
open Go.RowKit Go.Shelf
attribute [local go_sem] Oper.semAt_some

theorem wraps_i64 (n : Int) (h₀ : 0 ≤ n) (h₁ : n < 2 ^ 63) : IntKind.i64.wrap n = n := by rw [IntKind.wrap_i64]; omega
theorem and_one_i64 (x : Int) (h₀ : 0 ≤ x) (h₁ : x ≤ 9223372036854775807) : bits .and .i64 x 1 = x % 2 :=
  bits_mask .i64 63 (by decide) wraps_i64 1 (by decide) x h₀ (by omega)
theorem bit_of (k : Nat) (h : (k : Int) ≤ 9223372036854775807) : decide (k % 2 = 1) = (bits BinOp.and IntKind.i64 (k : Int) 1 == 1) := by
  rw [and_one_i64 _ (by omega) h, Bool.eq_iff_iff]; simp; omega

/-- The squares that a power goes through, with the bits of the exponent. -/
def sqs (n : Nat) (a : Int) : List (Int × Bool) := if h : n = 0 then [] else (a, decide (n % 2 = 1)) :: sqs (n / 2) (a * a % 2147483579)
termination_by n
decreasing_by omega

theorem sqs_pos {n : Nat} (a : Int) (h : n ≠ 0) : sqs n a = (a, decide (n % 2 = 1)) :: sqs (n / 2) (a * a % 2147483579) := by rw [sqs, dif_neg h]
theorem sqs_zero (a : Int) : sqs 0 a = [] := by rw [sqs, dif_pos rfl]

/-- The number in a cell. -/
def cellNat (w : World) (a : Addr) : Nat := match w.cell? a with | some v => (intOf v).toNat | none => 0
theorem cellNat_of {w : World} {a : Addr} {n : Nat} (h : w.cell? a = some (I n)) : cellNat w a = n := by unfold cellNat; rw [h]; simp [intOf]

theorem sqmod {b : Int} (h1 : 0 ≤ b) (h2 : b < 2147483579) : (wrap64 (b * b)).tmod 2147483579 = b * b % 2147483579 := by
  have h5 : 0 ≤ b * b := Int.mul_nonneg h1 h1
  have h6 : b * b ≤ 2147483578 * 2147483578 := Int.mul_le_mul (by omega) (by omega) h1 (by decide)
  have h7 : wrap64 (b * b) = b * b := by unfold wrap64; omega
  rw [h7, Int.tmod_eq_emod_of_nonneg h5]

def encSq (x : Int × Bool) : Array Value := #[I x.1, .bool x.2]

set_option maxHeartbeats 400000 in
theorem squares1_iter (bn ba : Nat) (m : Nat) (a : Int) (w0 : World) (hne : bn ≠ ba) (hn : w0.cell? ⟨bn, 0, none⟩ = some (I m)) (ha : w0.cell? ⟨ba, 0, none⟩ = some (I a))
    (fn : w0.frozen? ⟨bn, 0, none⟩ = false) (fa : w0.frozen? ⟨ba, 0, none⟩ = false) (hm : (m : Int) ≤ 9223372036854775807) (ha1 : 0 ≤ a) (ha2 : a < 2147483579) :
    Iter Tryz.prog 147 #[.pointer (some ⟨bn, 0, none⟩), .pointer (some ⟨ba, 0, none⟩)] encSq (fun k => k = bn ∨ k = ba) (fun k => k = bn ∨ k = ba) (fun _ _ => True) (sqs m a) w0 := by
  intro n l J Jx W hW _ hJ hJx hY h0
  refine callsIn_of_wp Tryz.func147 rfl trivial ?_ rfl
  simp only [Tryz.ntmps147, List.size_toArray, List.length_cons, List.length_nil, Nat.reduceAdd, Nat.reduceSub, Array.replicate_succ, Array.replicate_zero, List.push_toArray, List.append_toArray, List.nil_append, List.cons_append]
  gi_wp2
  have cn := hW.cell (a := ⟨bn, 0, none⟩) trivial hn
  have ca := hW.cell (a := ⟨ba, 0, none⟩) trivial ha
  have gn := (hW.frozen (a := ⟨bn, 0, none⟩) trivial (cell_old hn)).trans fn
  have ga := (hW.frozen (a := ⟨ba, 0, none⟩) trivial (cell_old ha)).trans fa
  have HN := Lib.hid hne
  clear hn ha fn fa hW hne
  gi_loopw [4] (fun v wr => ∃ (pre : List (Int × Bool)) (k : Nat) (b : Int), Hid (pre ++ sqs k b = sqs m a ∧ J pre wr) ∧ wr.cell? ⟨bn, 0, none⟩ = some (I k) ∧ wr.cell? ⟨ba, 0, none⟩ = some (I b) ∧ wr.frozen? ⟨bn, 0, none⟩ = false ∧ wr.frozen? ⟨ba, 0, none⟩ = false ∧ (k : Int) ≤ 9223372036854775807 ∧ 0 ≤ b ∧ b < 2147483579) (fun _ wr => cellNat wr ⟨bn, 0, none⟩)
  case atStart => exact ⟨[], m, a, Lib.hid ⟨rfl, h0⟩, cn, ca, gn, ga, hm, ha1, ha2⟩
  case round =>
    obtain ⟨pre, k, b, hp, cn, ca, gn, ga, hk, hb1, hb2⟩ := hrel
    by_cases hk0 : k = 0
    · subst hk0
      gi_wp2
      go_end0
      exact ⟨⟨_, rfl⟩, .inl (by have h := hp.out; rw [sqs_zero, List.append_nil] at h; rw [← h.1]; exact h.2)⟩
    · have g1 : 0 < k := by omega
      obtain ⟨fn, tmps, assign, body, hy, hR⟩ := hY pre (b, decide (k % 2 = 1)) wr hp.out.2 ⟨sqs (k / 2) (b * b % 2147483579), by rw [List.append_assoc, ← hp.out.1, sqs_pos b hk0]; rfl⟩
      have hp' : pre ++ [(b, decide (k % 2 = 1))] ++ sqs (k / 2) (b * b % 2147483579) = sqs m a := by rw [← hp.out.1, sqs_pos b hk0, List.append_assoc]; rfl
      have HP := Lib.hid hp'
      dsimp only [encSq] at hy
      rw [bit_of k hk] at hy
      clear hk0 hp'
      gi_wp2
      refine ⟨fun h => by simp [Fence.wide] at h, hR.mono ?_⟩
      rintro e W' (⟨rfl, hJ', hS⟩ | ⟨rfl, hJx'⟩)
      · have cn' := hS.cell (a := ⟨bn, 0, none⟩) (.inl rfl) cn
        have ca' := hS.cell (a := ⟨ba, 0, none⟩) (.inr rfl) ca
        have gn' := (hS.frozen (a := ⟨bn, 0, none⟩) (.inl rfl) (cell_old cn)).trans gn
        have ga' := (hS.frozen (a := ⟨ba, 0, none⟩) (.inr rfl) (cell_old ca)).trans ga
        have cn2 : ∀ v, (W'.setCell ⟨ba, 0, none⟩ v).cell? ⟨bn, 0, none⟩ = some (I k) := fun v => set_far (fun e => HN.out e.symm) cn'
        have gn2 : ∀ v, (W'.setCell ⟨ba, 0, none⟩ v).frozen? ⟨bn, 0, none⟩ = false := fun v => set_frozen gn'
        have e1 : (wrap64 (b * b)).tmod 2147483579 = b * b % 2147483579 := sqmod hb1 hb2
        have HS := Lib.hid hS
        have HJ := Lib.hid hJ'
        have CN := Lib.hid cn
        clear hS hJ' hy cn ca gn ga
        gi_wp2
        go_roundw
        case rel =>
          refine ⟨pre ++ [(b, decide (k % 2 = 1))], k / 2, b * b % 2147483579, Lib.hid ⟨HP.out, ?_⟩, ?_, ?_, ?_, ?_, by omega, by omega, by omega⟩
          · exact hJ _ _ _ HJ.out (((Same.refl _ _).setCell (.inl (fun h => h (.inr rfl))) _).setCell (.inl (fun h => h (.inl rfl))) _)
          · exact set_same (cn2 _)
          · exact set_far HN.out (set_same ca')
          · exact set_frozen (gn2 _)
          · exact set_frozen (set_frozen ga')
        case measure =>
          refine Nat.lt_of_le_of_lt (Nat.le_of_eq (cellNat_of (n := k / 2) (set_same (cn2 _)))) ?_
          rw [cellNat_of CN.out]; omega
      · gi_wp2
        refine bodyPost_ret (results_none rfl _ _ _) rfl ?_
        exact ⟨⟨_, rfl⟩, .inr hJx'⟩

theorem squares_any (a m : Int) (w : World) :
    Calls Tryz.prog 83 #[I a, I m] w fun e w' => e = .returned (.func (.func 147) #[] #[.pointer (some ⟨w.heap.size + 1, 0, none⟩), .pointer (some ⟨w.heap.size, 0, none⟩)]) ∧
      w' = (w.alloc (.cells #[I a] 3)).alloc (.cells #[I m] 3) := by
  go_enter Tryz.func83, Tryz.ntmps83
  go_wp2
  go_ret
  exact ⟨rfl, rfl⟩

theorem least_step (s n : Int) (h1 : 0 ≤ s) (h2 : s < 1073741789) : (wrap64 (s * wrap64 (Int.tmod n 1073741789 + 1073741789))).tmod 1073741789 = mul s n := by
  have hb := Int.tmod_lt_of_pos n (show (0 : Int) < 1073741789 by decide)
  have hb2 := Int.lt_tmod_of_pos n (show (0 : Int) < 1073741789 by decide)
  have e : (n.tmod 1073741789 + 1073741789) % 1073741789 = n % 1073741789 := by
    rw [Int.add_emod_right, Int.tmod_eq_emod]; split <;> simp <;> omega
  have e0 : wrap64 (Int.tmod n 1073741789 + 1073741789) = Int.tmod n 1073741789 + 1073741789 := by unfold wrap64; omega
  rw [e0]
  have hz : 0 ≤ Int.tmod n 1073741789 + 1073741789 := by omega
  have hz2 : Int.tmod n 1073741789 + 1073741789 ≤ 2147483577 := by omega
  clear e0 hb hb2
  generalize Int.tmod n 1073741789 + 1073741789 = z at *
  have h5 : 0 ≤ s * z := Int.mul_nonneg h1 hz
  have h6 : s * z ≤ 1073741788 * 2147483577 := Int.mul_le_mul (by omega) (by omega) hz (by decide)
  have h7 : wrap64 (s * z) = s * z := by unfold wrap64; omega
  rw [h7, Int.tmod_eq_emod_of_nonneg h5]
  unfold mul md
  rw [Int.mul_emod, e, ← Int.mul_emod]

/-- For one number: it, reduced. -/
theorem least_one (n : Int) (w : World) (v : Value) (hv : Ints w v [n]) :
    Calls Tryz.prog 84 #[v] w fun e w' => e = .returned (I (md n)) ∧ w = w' := by
  obtain ⟨A, c, rfl, hm⟩ := hv.shape
  obtain ⟨ad, rfl, hc⟩ := hv.at 0 (by simp)
  have E := Lib.hid (show (wrap64 (wrap64 (Int.tmod n 1073741789 + 1073741789))).tmod 1073741789 = md n by have h := least_step 1 n (by decide) (by decide); rw [Int.one_mul] at h; rw [h]; unfold mul; rw [Int.one_mul])
  have hc' : w.cell? ad = some (I n) := by simpa [Addr.add] using hc
  clear hv hc
  go_enter Tryz.func84, Tryz.ntmps84
  go_wp2
  refine wp_loop_rounds 2 ?_
  rw [rounds_succ]
  go_wp2
  rw [rounds_succ]
  go_wp2
  go_ret
  exact ⟨ret_int E.out, rfl⟩

theorem pmod_pow (a : Int) (n : Nat) : (a % 2147483579) ^ n % 2147483579 = a ^ n % 2147483579 := by
  induction n with
  | zero => simp
  | succ n ih => rw [Int.pow_succ, Int.pow_succ, Int.mul_emod, ih, Int.emod_emod_of_dvd _ (Int.dvd_refl _), ← Int.mul_emod]

/-- A round of a power. -/
def sqStep (c : Int) (x : Int × Bool) : Int := if x.2 then c * x.1 % 2147483579 else c

theorem pow_squares (m : Nat) : ∀ (a c : Int), 0 ≤ c → c < 2147483579 → (sqs m a).foldl sqStep c = c * a ^ m % 2147483579 := by
  induction m using Nat.strongRecOn with
  | ind m ih =>
    intro a c hc hc2
    by_cases h : m = 0
    · subst h; rw [sqs_zero]; simp; omega
    · rw [sqs_pos a h, List.foldl_cons]
      have hs : 0 ≤ sqStep c (a, decide (m % 2 = 1)) ∧ sqStep c (a, decide (m % 2 = 1)) < 2147483579 := by unfold sqStep; dsimp only; split <;> omega
      rw [ih (m / 2) (by omega) _ _ hs.1 hs.2, Int.mul_emod, pmod_pow, ← Int.mul_emod]
      have e2 : (a * a) ^ (m / 2) = a ^ (2 * (m / 2)) := by rw [Int.pow_mul, Int.pow_succ, Int.pow_succ, Int.pow_zero, Int.one_mul]
      rw [e2]
      unfold sqStep
      by_cases hb : m % 2 = 1
      · have e3 : a ^ m = a * a ^ (2 * (m / 2)) := by rw [Int.mul_comm, ← Int.pow_succ]; exact congrArg (a ^ ·) (show m = 2 * (m / 2) + 1 by omega)
        rw [if_pos (by simpa using hb), e3, ← Int.mul_assoc, Int.mul_emod, Int.emod_emod_of_dvd _ (Int.dvd_refl _), ← Int.mul_emod]
      · rw [if_neg (by simpa using hb)]
        congr 2
        exact congrArg (a ^ ·) (show 2 * (m / 2) = m by omega)

end Go.Proofs.YtgacdmkhgllceaaGreatDoor

namespace Go.Proofs.YtgacdmkhgllceaaGreatDoor
open Go.RowKit Go.Shelf
attribute [local go_sem] Oper.semAt_some

/-- A power modulo P: by choice, so that nothing tries to reckon it. -/
noncomputable def ipw (a : Int) (n : Nat) : Int := Classical.choose (⟨a ^ n % 2147483579, rfl⟩ : ∃ r, r = a ^ n % 2147483579)
theorem ipw_def (a : Int) (n : Nat) : ipw a n = a ^ n % 2147483579 := Classical.choose_spec (⟨a ^ n % 2147483579, rfl⟩ : ∃ r, r = a ^ n % 2147483579)
/-- A power of an element; 0 of what is none. -/
noncomputable def powP (a m : Int) : Int := if Sg.vld a then ipw a (md m).toNat else 0
/-- The error of what is no element. -/
noncomputable def powErr (a : Int) : Int := if Sg.vld a then 0 else 100

theorem vld_range {a : Int} (h : Sg.vld a = true) : 1 ≤ a ∧ a < 2147483579 := by
  unfold Sg.vld at h
  simp only [Bool.and_eq_true, decide_eq_true_eq] at h
  exact ⟨h.1, h.2.1⟩

/-- Four new cells. -/
theorem cell_new2 (w : World) (a b c d : Value) (t : TypeId) :
    let W := ((((w.alloc (.cells #[a] t)).alloc (.cells #[b] t)).alloc (.cells #[c] t)).alloc (.cells #[d] t))
    W.cell? ⟨w.heap.size, 0, none⟩ = some a ∧ W.frozen? ⟨w.heap.size, 0, none⟩ = false ∧ W.cell? ⟨w.heap.size + 2, 0, none⟩ = some c ∧ W.frozen? ⟨w.heap.size + 2, 0, none⟩ = false ∧ W.cell? ⟨w.heap.size + 3, 0, none⟩ = some d ∧ W.frozen? ⟨w.heap.size + 3, 0, none⟩ = false := by
  intro W
  have h1 := old_cell (.cells #[d] t) (old_cell (.cells #[c] t) (old_cell (.cells #[b] t) (new_cell w a t _ rfl)))
  have h2 := old_cell (.cells #[d] t) (new_cell ((w.alloc (.cells #[a] t)).alloc (.cells #[b] t)) c t (w.heap.size + 2) (by simp))
  have h3 := new_cell (((w.alloc (.cells #[a] t)).alloc (.cells #[b] t)).alloc (.cells #[c] t)) d t (w.heap.size + 3) (by simp)
  exact ⟨h1.1, h1.2, h2.1, h2.2, h3.1, h3.2⟩

theorem sqs_range (m : Nat) : ∀ (a : Int), 0 ≤ a → a < 2147483579 → ∀ x ∈ sqs m a, 0 ≤ x.1 ∧ x.1 < 2147483579 := by
  induction m using Nat.strongRecOn with
  | ind m ih =>
    intro a h1 h2 x hx
    by_cases h : m = 0
    · subst h; rw [sqs_zero] at hx; simp at hx
    · rw [sqs_pos a h, List.mem_cons] at hx
      rcases hx with rfl | hx
      · exact ⟨h1, h2⟩
      · exact ih (m / 2) (by omega) _ (by omega) (by omega) x hx
theorem fold_range (l : List (Int × Bool)) : ∀ c : Int, 0 ≤ c → c < 2147483579 → 0 ≤ l.foldl sqStep c ∧ l.foldl sqStep c < 2147483579 := by
  induction l with
  | nil => intro c h1 h2; exact ⟨h1, h2⟩
  | cons x l ih => intro c h1 h2; rw [List.foldl_cons]; exact ih _ (by unfold sqStep; split <;> omega) (by unfold sqStep; split <;> omega)
theorem mulmodP {a b : Int} (h1 : 0 ≤ a) (h2 : a < 2147483579) (h3 : 0 ≤ b) (h4 : b < 2147483579) : (wrap64 (a * b)).tmod 2147483579 = a * b % 2147483579 := by
  have h5 : 0 ≤ a * b := Int.mul_nonneg h1 h3
  have h6 : a * b ≤ 2147483578 * 2147483578 := Int.mul_le_mul (by omega) (by omega) h3 (by decide)
  have h7 : wrap64 (a * b) = a * b := by unfold wrap64; omega
  rw [h7, Int.tmod_eq_emod_of_nonneg h5]

set_option maxHeartbeats 400000 in
theorem pow_any (a m : Int) (w : World) :
    Calls Tryz.prog 30 #[I a, I m] w fun e w' => e = .returned (.tuple #[I (powP a m), I (powErr a)]) ∧ Below w.heap.size w w' := by
  cases hv : Sg.vld a with
  | false =>
    have E : Hid (powP a m = 0 ∧ powErr a = 100) := Lib.hid ⟨by unfold powP; rw [hv]; rfl, by unfold powErr; rw [hv]; rfl⟩
    go_enter Tryz.func30, Tryz.ntmps30
    go_wp2_with fail
    refine (valid_any a _).mono ?_
    rintro e w' ⟨rfl, rfl⟩
    go_wp2
    refine bodyPost_ret (v := .tuple #[I 0, I 100]) (by simp [results, Tryz.results30, go_sem]) rfl ⟨ret_two (congrArg I E.out.1.symm) (congrArg I E.out.2.symm), (Below.refl _ _).alloc (Nat.le_refl _) _⟩
  | true =>
    have E : Hid (powP a m = (sqs (md m).toNat a).foldl sqStep 1 ∧ powErr a = 0) := Lib.hid ⟨by unfold powP; rw [hv, pow_squares _ _ _ (by decide) (by decide), if_pos rfl, Int.one_mul, ipw_def], by unfold powErr; rw [hv]; rfl⟩
    obtain ⟨hr1, hr2⟩ := vld_range hv
    refine (callsIn_wide (n := 5)).1 ?_
    refine callsIn_of_wp_marks Tryz.func30 rfl trivial ?_
    simp only [Tryz.ntmps30, List.size_toArray, List.length_cons, List.length_nil, Nat.reduceAdd, Nat.reduceSub, Array.replicate_succ, Array.replicate_zero, List.push_toArray, List.append_toArray, List.nil_append, List.cons_append]
    gi_wp2_with fail
    refine ⟨trivial, ?_⟩
    refine (callsIn_wide.2 (valid_any a _)).mono ?_
    rintro e w' ⟨rfl, rfl⟩
    gi_wp2_with fail
    refine ⟨trivial, ?_⟩
    refine (callsIn_wide.2 (least_one m _ _ (Ints.new _ [m] _ 1 3 #[I m] (by simp) rfl rfl (by simp)))).mono ?_
    rintro e w' ⟨rfl, rfl⟩
    gi_wp2_with fail
    refine ⟨trivial, ?_⟩
    refine (callsIn_wide.2 (squares_any a (md m) _)).mono ?_
    rintro e w' ⟨rfl, rfl⟩
    gi_wp2
    have hci := cell_new2 w (I 1) (I m) (I a) (I (md m)) 3
    obtain ⟨W0, hW0⟩ : ∃ W0, ((((w.alloc (Obj.cells #[Value.int IntKind.i64 1] 3)).alloc (Obj.cells #[I m] 3)).alloc (Obj.cells #[I a] 3)).alloc (Obj.cells #[I (md m)] 3)) = W0 := ⟨_, rfl⟩
    rw [hW0]
    have hsz : W0.heap.size = w.heap.size + 4 := by rw [← hW0]; simp
    have hbel : Below w.heap.size w W0 := by rw [← hW0]; exact ((((Below.refl _ w).alloc (Nat.le_refl _) _).alloc (by simp) _).alloc (by simp; omega) _).alloc (by simp; omega) _
    rw [hW0] at hci
    obtain ⟨hc1, hf1, hc2, hf2, hc3, hf3⟩ := hci
    clear hW0
    have hit : Iter Tryz.prog 147 #[.pointer (some ⟨w.heap.size + 3, 0, none⟩), .pointer (some ⟨w.heap.size + 2, 0, none⟩)] encSq (fun k => k = w.heap.size + 3 ∨ k = w.heap.size + 2) (fun k => k = w.heap.size + 3 ∨ k = w.heap.size + 2) (fun _ _ => True) (sqs (md m).toNat a) W0 := by
      have hmd := md_bd m
      obtain ⟨q, hq⟩ := Int.eq_ofNat_of_zero_le hmd.1
      rw [hq] at hc3 hmd ⊢
      rw [Int.toNat_natCast]
      exact squares1_iter _ _ q a W0 (by omega) hc3 hc2 hf3 hf2 (by omega) (by omega) hr2
    refine range_law rfl (enters_of Tryz.func147 (by kernel_rfl) rfl) hit (fun _ => rfl) (fun k => k = w.heap.size) (fun k h1 h2 => by omega) (fun k h => by omega) (fun k h => by omega) (fun k h => by omega)
      (fun pre W => W.cell? ⟨w.heap.size, 0, none⟩ = some (I (pre.foldl sqStep 1)) ∧ W.frozen? ⟨w.heap.size, 0, none⟩ = false ∧ Below w.heap.size w W) (fun _ _ => False) (fun _ _ _ => trivial)
      (fun s A B ⟨g1, g2, g3⟩ hs => ⟨hs.cell (by dsimp only; omega) g1, (hs.frozen (by dsimp only; omega) (cell_old g1)).trans g2, g3.trans (hs.below (by intro k hk; omega) g3.size)⟩)
      (fun _ _ _ h _ => h) ⟨hc1, hf1, hbel⟩
      (fun x => { tmps := #[I a, I m, undef, undef, Value.pointer (some { block := w.heap.size, off := 0 }), Value.int IntKind.i64 0, I x.1, .bool x.2, I a, Value.bool true, Value.bool false, I a, I m, Value.slice (some { block := w.heap.size + 1, off := 0 }) 1 1, I (md m), Value.func (Fn.func 147) #[] #[Value.pointer (some { block := w.heap.size + 1 + 1 + 1, off := 0 }), Value.pointer (some { block := w.heap.size + 1 + 1, off := 0 })], I x.1, .bool x.2, undef, undef, undef, undef, undef, undef], defers := [] }) ?assign ?body ?done ?stop
    case assign =>
      intro l x W K hK
      obtain ⟨x1, x2⟩ := x
      dsimp only [encSq]
      gi_wp2
      exact hK
    case body =>
      rintro l pre ⟨x1, x2⟩ W hz ⟨g1, g2, g3⟩ hpre
      cases x2 with
      | false =>
        gi_wp2
        exact ⟨Same.refl _ _, by rw [List.foldl_append]; exact g1, g2, g3⟩
      | true =>
        have hx := sqs_range _ a (by omega) hr2 (x1, true) (hpre.subset (by simp))
        have hc := fold_range pre 1 (by decide) (by decide)
        have e := mulmodP hc.1 hc.2 hx.1 hx.2
        have E2 := Lib.hid e
        clear hx hc e
        gi_wp2
        exact ⟨(Same.refl _ _).setCell (.inl (fun h => h rfl)) _, by rw [List.foldl_append]; exact (set_same g1).trans (congrArg (fun z => some (I z)) E2.out), set_frozen g2, g3.setCell (Nat.le_refl _) _⟩
    case done =>
      rintro W hz ⟨g1, g2, g3⟩ hD
      gi_wp2
      refine ⟨by simp, .inl ⟨_, _, rfl, run_takeDeferred ((KeepsOthers.setCell _ _ _).same _ _ hD rfl), ?_⟩⟩
      have hcell := putObj_cell (o := .deferred none) (l := W0.heap.size) (by dsimp only; omega) (set_same (v := Value.int IntKind.i64 (List.foldl sqStep 1 (sqs (md m).toNat a))) g1)
      refine ⟨.tuple #[I (List.foldl sqStep 1 (sqs (md m).toNat a)), I 0], by simp [results, Tryz.results30, go_sem, hcell], ret_two (congrArg I E.out.1.symm) (congrArg I E.out.2.symm), ?_⟩
      exact (g3.setCell (Nat.le_refl _) _).trans (((Same.refl (fun k => k < w.heap.size) _).putObj (.inl (by omega)) _).below (fun k hk => hk) (by have := g3.size; simp [World.setCell]; omega))
    case stop =>
      intro c W hz h
      exact h.elim

end Go.Proofs.YtgacdmkhgllceaaGreatDoor
