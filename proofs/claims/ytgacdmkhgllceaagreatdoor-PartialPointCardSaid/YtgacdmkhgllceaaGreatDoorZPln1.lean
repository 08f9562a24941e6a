/- The plain law of exponents: all elements that the statements speak of are powers of 4. -/
import Derived.Test.YtgacdmkhgllceaaGreatDoorZLin7
import Derived.Test.YtgacdmkhgllceaaGreatDoorZSlices1
namespace Go.Proofs.YtgacdmkhgllceaaGreatDoor

theorem pow_period {a : Int} {q : Nat} (h : a ^ q % 2147483579 = 1) (n : Nat) : a ^ n % 2147483579 = a ^ (n % q) % 2147483579 := by
  have e : a ^ n = (a ^ q) ^ (n / q) * a ^ (n % q) := by rw [← Int.pow_mul, ← Int.pow_add, Nat.div_add_mod]
  rw [e, Int.mul_emod, ← pmod_pow, h, Int.one_pow]
  omega

theorem powP_eq {a : Int} (h : Sg.vld a = true) (m : Int) : powP a m = a ^ (md m).toNat % 2147483579 := by
  unfold powP; rw [if_pos h, ipw_def]
theorem md_toNat (m : Int) : (((md m).toNat : Nat) : Int) = md m := Int.toNat_of_nonneg (md_bd m).1
theorem toNat_add (m n : Int) : ((md m).toNat + (md n).toNat) % 1073741789 = (md (m + n)).toNat := by
  unfold md; omega
theorem toNat_mul (m n : Int) : ((md m).toNat * (md n).toNat) % 1073741789 = (md (m * n)).toNat := by
  have h : ((((md m).toNat * (md n).toNat) % 1073741789 : Nat) : Int) = (((md (m * n)).toNat : Nat) : Int) := by
    rw [Int.natCast_emod, Int.natCast_mul, md_toNat, md_toNat, md_toNat]
    show md (md m * md n) = _
    rw [md_mul_left, md_mul_right]
  exact Int.ofNat.inj h
theorem period {a : Int} (h : Sg.vld a = true) (n : Nat) : a ^ n % 2147483579 = a ^ (n % 1073741789) % 2147483579 := pow_period ((vld_iff a).1 h).2.2 n

theorem powP_add {a : Int} (h : Sg.vld a = true) (m n : Int) : mulP (powP a m) (powP a n) = powP a (m + n) := by
  rw [(mulP_vld (powP_vld m h).1 (powP_vld n h).1).2.2, powP_eq h, powP_eq h, powP_eq h, ← Int.mul_emod, ← Int.pow_add, period h, toNat_add]
theorem powP_powP {a : Int} (h : Sg.vld a = true) (m n : Int) : powP (powP a m) n = powP a (m * n) := by
  rw [powP_eq (powP_vld m h).1, powP_eq h, powP_eq h, pmod_pow, ← Int.pow_mul, period h, toNat_mul]
theorem powP_congr {a m n : Int} (h : md m = md n) : powP a m = powP a n := by unfold powP; rw [h]
theorem powP_zero {a : Int} (h : Sg.vld a = true) : powP a 0 = 1 := by
  rw [powP_eq h, show md 0 = 0 from rfl]
  show a ^ 0 % 2147483579 = 1
  rw [Int.pow_zero]; decide

/-- A power of 4. -/
noncomputable def ex (n : Int) : Int := powP 4 n
theorem ex_vld (n : Int) : Sg.vld (ex n) = true := (powP_vld n vld_four).1
theorem ex_mul (m n : Int) : mulP (ex m) (ex n) = ex (m + n) := powP_add vld_four m n
theorem ex_pow (m n : Int) : powP (ex m) n = ex (m * n) := powP_powP vld_four m n
theorem ex_congr {m n : Int} (h : md m = md n) : ex m = ex n := powP_congr h
theorem ex_zero : ex 0 = 1 := powP_zero vld_four
theorem ex_one : ex 1 = 4 := by
  unfold ex
  rw [powP_eq vld_four, show md 1 = 1 from rfl]
  show (4 : Int) ^ 1 % 2147483579 = 4
  decide
theorem ex_inj {m n : Int} (h : ex m = ex n) : md m = md n := by
  have h1 : ex (m - n) = 1 := by
    rw [show m - n = m + -n by omega, ← ex_mul, h, ex_mul, show n + -n = 0 by omega, ex_zero]
  have h2 : md (m - n) = 0 := by
    refine Decidable.byContradiction fun hne => ?_
    have hb := md_bd (m - n)
    have hi := inv_mul (a := md (m - n)) (by omega) hb.2
    have h3 : ex (md (m - n) * inv (md (m - n))) = ex 1 := ex_congr (by rw [hi]; rfl)
    rw [← ex_pow, ex_congr (md_md (m - n)), h1, ex_one] at h3
    have h4 : powP 1 (inv (md (m - n))) = 1 := by rw [powP_eq vld_one, Int.one_pow]; decide
    rw [h4] at h3
    exact absurd h3 (by decide)
  exact md_sub_eq.2 h2
theorem ex_iff {m n : Int} : ex m = ex n ↔ md m = md n := ⟨ex_inj, ex_congr⟩

/-- The product of powers. -/
theorem prodP_ex {α : Type} (f : α → Int) (g : α → Int) : ∀ (l : List α) (c : Int), (∀ x ∈ l, f x = ex (g x)) → l.foldl (fun x y => mulP x (f y)) (ex c) = ex (c + (l.map g).sum)
  | [], c, _ => by simp
  | x :: l, c, h => by
    rw [List.foldl_cons, h x (by simp), ex_mul, prodP_ex f g l _ (fun y hy => h y (by simp [hy])), List.map_cons, List.sum_cons, Int.add_assoc]
theorem prodP_ex1 {α : Type} {f : α → Int} {g : α → Int} {l : List α} (h : ∀ x ∈ l, f x = ex (g x)) : prodP f l = ex ((l.map g).sum) := by
  unfold prodP
  rw [← ex_zero, prodP_ex f g l 0 h, Int.zero_add]

/-- Sums of products. -/
def dotZ (a b : List Int) : Int := ((a.zip b).map fun x => x.1 * x.2).sum
theorem dot_fold : ∀ (l : List (Int × Int)) (c d : Int), md c = md d → md (l.foldl dotStep c) = md (d + (l.map fun x => x.1 * x.2).sum)
  | [], c, d, h => by simp [h]
  | x :: l, c, d, h => by
    rw [List.foldl_cons, dot_fold l _ (d + x.1 * x.2), List.map_cons, List.sum_cons, Int.add_assoc]
    unfold dotStep add
    rw [md_md]
    unfold mul
    unfold md at *; omega
theorem dot_md (a b : List Int) : md (dot a b) = md (dotZ a b) := by
  unfold dot dotZ
  rw [dot_fold _ 0 0 rfl, Int.zero_add]
theorem dot_bd_fold : ∀ (l : List (Int × Int)) (c : Int), 0 ≤ c ∧ c < 1073741789 → 0 ≤ l.foldl dotStep c ∧ l.foldl dotStep c < 1073741789
  | [], _, h => h
  | x :: l, c, _ => by
    rw [List.foldl_cons]
    exact dot_bd_fold l _ (md_bd _)
theorem dot_bd (a b : List Int) : 0 ≤ dot a b ∧ dot a b < 1073741789 := dot_bd_fold _ 0 (by decide)
theorem pub_fold : ∀ (l : List (Int × Int)) (c : Int), (l.map fun x => (ex x.1, x.2)).foldl pubStep (ex c) = ex (c + (l.map fun x => x.2 * x.1).sum)
  | [], c => by simp
  | x :: l, c => by
    rw [List.map_cons, List.foldl_cons]
    show List.foldl pubStep (mulP (ex c) (powP (ex x.1) x.2)) _ = _
    rw [ex_pow, ex_mul, pub_fold l, List.map_cons, List.sum_cons, Int.mul_comm x.2, Int.add_assoc]
theorem zip_swap_sum : ∀ (a b : List Int), ((a.zip b).map fun x => x.2 * x.1).sum = dotZ b a
  | [], b => by cases b <;> rfl
  | x :: a, [] => rfl
  | x :: a, y :: b => by
    unfold dotZ
    rw [List.zip_cons_cons, List.map_cons, List.sum_cons, zip_swap_sum a b, List.zip_cons_cons, List.map_cons, List.sum_cons]
    rfl
theorem zip_map_ex : ∀ (s row : List Int), (s.map (powP 4)).zip row = (s.zip row).map fun x => (ex x.1, x.2)
  | [], row => by cases row <;> rfl
  | _ :: _, [] => rfl
  | x :: s, y :: row => by rw [List.map_cons, List.zip_cons_cons, zip_map_ex s row, List.zip_cons_cons, List.map_cons]; rfl
/-- A row's point is 4 to the row's share. -/
theorem pubP_ex (s row : List Int) : pubP (commitsOf s) row = ex (dot row s) := by
  unfold pubP commitsOf
  rw [zip_map_ex, ← ex_zero, pub_fold, Int.zero_add, zip_swap_sum]
  exact ex_congr (dot_md row s).symm

end Go.Proofs.YtgacdmkhgllceaaGreatDoor

/- The plain law of Accepts: the weights put the secret together out of the shares of whoever is enough. -/
namespace Go.Proofs.YtgacdmkhgllceaaGreatDoor

theorem sumTo_congr {g h : Nat → Int} : ∀ k, (∀ j, j < k → g j = h j) → sumTo g k = sumTo h k
  | 0, _ => rfl
  | k + 1, e => by simp only [sumTo]; rw [sumTo_congr k fun j hj => e j (by omega), e k (by omega)]
theorem sumTo_add (g h : Nat → Int) : ∀ k, sumTo (fun j => g j + h j) k = sumTo g k + sumTo h k
  | 0 => rfl
  | k + 1 => by simp only [sumTo, sumTo_add g h k]; omega
theorem sumTo_swap (f : Nat → Nat → Int) (m : Nat) : ∀ n, sumTo (fun i => sumTo (fun j => f i j) m) n = sumTo (fun j => sumTo (fun i => f i j) n) m
  | 0 => (sumTo_zero m fun _ _ => rfl).symm
  | n + 1 => by
    simp only [sumTo]
    rw [sumTo_swap f m n, ← sumTo_add]
theorem sumTo_upd (f g : Nat → Int) (p : Nat) (x : Int) (h : f p = 0) : ∀ n, p < n → sumTo (fun i => upd f p x i * g i) n = sumTo (fun i => f i * g i) n + x * g p
  | 0, hp => by omega
  | n + 1, hp => by
    simp only [sumTo]
    by_cases e : p = n
    · subst e
      rw [upd_same, h, sumTo_congr p (g := fun i => upd f p x i * g i) (h := fun i => f i * g i) fun j hj => by rw [upd_ne _ _ (by omega)]]
      omega
    · rw [sumTo_upd f g p x h n (by omega), upd_ne _ _ (by omega)]; omega

theorem layTo_none {ps : List Nat} {l : List Int} {p : Nat} : ∀ q, (∀ k, k < q → ps.getD k 0 ≠ p) → layTo ps l q p = 0
  | 0, _ => rfl
  | q + 1, h => by
    show upd _ _ _ _ = _
    rw [upd_ne _ _ (fun e => h q (by omega) e.symm)]
    exact layTo_none q fun k hk => h k (by omega)
theorem layTo_sum {ps : List Nat} {l : List Int} {n : Nat} (g : Nat → Int) (h1 : ∀ i j, i < j → j < ps.length → ps.getD i 0 ≠ ps.getD j 0) (h2 : ∀ i, i < ps.length → ps.getD i 0 < n) :
    ∀ q, q ≤ ps.length → sumTo (fun i => layTo ps l q i * g i) n = sumTo (fun k => l.getD k 0 * g (ps.getD k 0)) q
  | 0, _ => sumTo_zero n fun _ _ => by show (0 : Int) * _ = 0; rw [Int.zero_mul]
  | q + 1, hq => by
    show sumTo (fun i => upd (layTo ps l q) (ps.getD q 0) (l.getD q 0) i * g i) n = _
    rw [sumTo_upd _ _ _ _ (layTo_none q fun k hk => h1 k q hk (by omega)) n (h2 q (by omega)), layTo_sum g h1 h2 q (by omega)]
    rfl

theorem places_incr (owners who : List Int) (n : Nat) : (placesOf owners who n).Pairwise (· < ·) := by
  unfold placesOf
  exact List.Pairwise.filter _ List.pairwise_lt_range
theorem places_ne (owners who : List Int) (n : Nat) (i j : Nat) (hij : i < j) (hj : j < (placesOf owners who n).length) : (placesOf owners who n).getD i 0 ≠ (placesOf owners who n).getD j 0 := by
  have h := List.pairwise_iff_getElem.1 (places_incr owners who n) i j (by omega) hj hij
  rw [List.getD_eq_getElem?_getD, List.getD_eq_getElem?_getD, List.getElem?_eq_getElem hj, List.getElem?_eq_getElem (show i < _ by omega)]
  simp only [Option.getD_some]
  omega

/-- A row's weight. -/
def wt (rows : List (List Int)) (owners who : List Int) (i : Nat) : Int := (accY rows owners who).getD i 0
theorem wt_lay {rows : List (List Int)} {owners who : List Int} {i : Nat} (h : i < rows.length) : wt rows owners who i = layTo (placesOf owners who rows.length) (accL rows owners who) (placesOf owners who rows.length).length i := by
  unfold wt accY
  simp [h]
theorem wt_none {rows : List (List Int)} {owners who : List Int} {i : Nat} (h : i < rows.length) (ho : hasI who (owners.getD i 0) = false) : wt rows owners who i = 0 := by
  rw [wt_lay h]
  refine layTo_none _ fun k hk e => ?_
  have hm : (placesOf owners who rows.length)[k] ∈ placesOf owners who rows.length := List.getElem_mem hk
  rw [List.getD_eq_getElem?_getD, List.getElem?_eq_getElem hk, Option.getD_some] at e
  rw [e] at hm
  unfold placesOf at hm
  rw [List.mem_filter] at hm
  rw [ho] at hm
  exact absurd hm.2 (by decide)

theorem target_len (rows : List (List Int)) : (targetOf rows).length = cols rows := by simp [targetOf]
theorem target_at {rows : List (List Int)} {j : Nat} (h : j < cols rows) : (targetOf rows).getD j 0 = if j = 0 then 1 else 0 := by
  unfold targetOf; simp [h]

/-- The weights make the target out of each column. -/
theorem wt_col {rows : List (List Int)} {owners who : List Int} (h0 : progErr rows owners = 0) (ha : accB rows owners who = true) (j : Nat) (hj : j < cols rows) :
    md (sumTo (fun i => wt rows owners who i * (rows.getD i []).getD j 0) rows.length) = md (if j = 0 then 1 else 0) := by
  have hs := sol_sound (rowsOf_right (who := who) h0) (targetOf_nums rows) ha j (by rw [target_len]; exact hj)
  have hrl : (rowsOf rows owners who).length = (placesOf owners who rows.length).length := by simp [rowsOf]
  have e2 : tabF (rowsOf rows owners who) (targetOf rows) j (rowsOf rows owners who).length = if j = 0 then 1 else 0 := by
    unfold tabF; rw [if_neg (by omega), target_at hj]
  rw [e2] at hs
  rw [← hs]
  congr 1
  rw [sumTo_congr rows.length (h := fun i => layTo (placesOf owners who rows.length) (accL rows owners who) (placesOf owners who rows.length).length i * (rows.getD i []).getD j 0) fun i hi => by rw [wt_lay hi]]
  rw [layTo_sum (fun i => (rows.getD i []).getD j 0) (places_ne owners who rows.length) (fun i hi => by
    rw [List.getD_eq_getElem?_getD, List.getElem?_eq_getElem hi, Option.getD_some]
    exact placesOf_lt (List.getElem_mem hi)) _ (Nat.le_refl _), hrl]
  refine sumTo_congr _ fun k hk => ?_
  unfold tabF
  rw [if_pos (by omega)]
  have e3 : (accL rows owners who).getD k 0 = yTo (redF (rowsOf rows owners who) (targetOf rows)) (rowsOf rows owners who).length (redF (rowsOf rows owners who) (targetOf rows)).2.length k := by
    unfold accL solY
    simp [hrl, hk]
  rw [e3, hrl, Int.mul_comm]
  congr 1
  unfold rowsOf
  simp [hk]

theorem dotZ_sum : ∀ (a b : List Int), a.length = b.length → dotZ a b = sumTo (fun j => a.getD j 0 * b.getD j 0) a.length := by
  intro a b h
  suffices H : ∀ k, k ≤ a.length → (((a.zip b).take k).map fun x => x.1 * x.2).sum = sumTo (fun j => a.getD j 0 * b.getD j 0) k by
    have := H a.length (Nat.le_refl _)
    rw [List.take_of_length_le (by rw [List.length_zip]; omega)] at this
    exact this
  intro k
  induction k with
  | zero => intro _; rfl
  | succ k ih =>
    intro hk
    rw [zip_take_succ (show k < a.length by omega) (show k < b.length by omega), List.map_append, List.sum_append, ih (by omega)]
    simp only [sumTo]
    simp [show k < a.length by omega, show k < b.length by omega]

/-- THE SECRET OUT OF THE SHARES. -/
theorem wt_secret {rows : List (List Int)} {owners who : List Int} (h0 : progErr rows owners = 0) (ha : accB rows owners who = true) (s : List Int) (hs : s.length = cols rows) :
    md (sumTo (fun i => wt rows owners who i * dot (rows.getD i []) s) rows.length) = md (s.getD 0 0) := by
  obtain ⟨_, _, _, h4⟩ := progErr_zero h0
  have hc := (cols_pos h0).1
  have e1 : md (sumTo (fun i => wt rows owners who i * dot (rows.getD i []) s) rows.length) = md (sumTo (fun i => sumTo (fun j => s.getD j 0 * (wt rows owners who i * (rows.getD i []).getD j 0)) (cols rows)) rows.length) := by
    refine sumTo_md _ fun i hi => ?_
    have hl : (rows.getD i []).length = cols rows := by
      rw [List.getD_eq_getElem?_getD, List.getElem?_eq_getElem hi, Option.getD_some]; exact (h4 i hi).1
    rw [md_eq_mul _ (dot_md _ _), dotZ_sum _ _ (by omega), ← sumTo_mul, hl]
    congr 1
    refine sumTo_congr _ fun j _ => ?_
    rw [← Int.mul_assoc, Int.mul_comm]
  rw [e1, sumTo_swap]
  have e2 : md (sumTo (fun j => sumTo (fun i => s.getD j 0 * (wt rows owners who i * (rows.getD i []).getD j 0)) rows.length) (cols rows)) = md (sumTo (fun j => s.getD j 0 * if j = 0 then 1 else 0) (cols rows)) := by
    refine sumTo_md _ fun j hj => ?_
    rw [sumTo_mul]
    exact md_eq_mul _ (wt_col h0 ha j hj)
  rw [e2, sumTo_one (p := 0) _ (by omega) (fun j _ hne => by rw [if_neg hne, Int.mul_zero]), if_pos rfl, Int.mul_one]

/-- The places of a keeper's rows. -/
def ownIdx (owners : List Int) (n : Nat) (k : Int) : List Nat := (List.range n).filter fun i => owners.getD i 0 == k
theorem ownIdx_sum (owners : List Int) (k : Int) (f : Nat → Int) : ∀ n, ((ownIdx owners n k).map f).sum = sumTo (fun i => if owners.getD i 0 = k then f i else 0) n
  | 0 => rfl
  | n + 1 => by
    have ih := ownIdx_sum owners k f n
    unfold ownIdx at *
    rw [List.range_succ, List.filter_append, List.map_append, List.sum_append, ih]
    simp only [sumTo]
    by_cases h : owners.getD n 0 = k
    · have : (owners.getD n 0 == k) = true := by simpa using h
      rw [if_pos h, List.filter_cons, this]; simp
    · have : (owners.getD n 0 == k) = false := by simpa using h
      rw [if_neg h, List.filter_cons, this]; simp
/-- All keepers' sums together. -/
theorem keepers_sum (owners : List Int) (f : Nat → Int) (n : Nat) : ∀ who : List Int, who.Nodup → (who.map fun k => ((ownIdx owners n k).map f).sum).sum = sumTo (fun i => if hasI who (owners.getD i 0) then f i else 0) n
  | [], _ => by
    rw [sumTo_zero n fun j _ => by simp [hasI]]; rfl
  | k :: who, h => by
    rw [List.nodup_cons] at h
    rw [List.map_cons, List.sum_cons, keepers_sum owners f n who h.2, ownIdx_sum, ← sumTo_add]
    refine sumTo_congr _ fun i _ => ?_
    unfold hasI
    rw [List.contains_cons]
    by_cases e : owners.getD i 0 = k
    · subst e
      have : who.contains (owners.getD i 0) = false := by simpa using h.1
      rw [this]; simp
    · rw [if_neg e, show (owners.getD i 0 == k) = false by simpa using e]; simp
theorem incr_nodup {l : List Int} (h : Incr l) : l.Nodup := by
  rw [List.nodup_iff_pairwise_ne, List.pairwise_iff_getElem]
  intro i j hi hj hij e
  have := h i j hij hj
  omega
/-- What a keeper's rows come to. -/
def ksum (rows : List (List Int)) (owners who s : List Int) (k : Int) : Int := ((ownIdx owners rows.length k).map fun i => wt rows owners who i * dot (rows.getD i []) s).sum
theorem ksum_all {rows : List (List Int)} {owners who : List Int} (h0 : progErr rows owners = 0) (ha : accB rows owners who = true) (hn : who.Nodup) (s : List Int) (hs : s.length = cols rows) :
    md ((who.map (ksum rows owners who s)).sum) = md (s.getD 0 0) := by
  unfold ksum
  rw [keepers_sum _ _ _ who hn, ← wt_secret h0 ha s hs]
  congr 1
  refine sumTo_congr _ fun i hi => ?_
  cases hc : hasI who (owners.getD i 0) with
  | true => rfl
  | false => rw [wt_none hi hc]; simp

end Go.Proofs.YtgacdmkhgllceaaGreatDoor

/- The examples with which the statements begin: who is enough there. -/
namespace Go.Proofs.YtgacdmkhgllceaaGreatDoor

theorem acc_of {rows : List (List Int)} {owners who : List Int} (h0 : progErr rows owners = 0) (y : Nat → Int) (hy : Sol (tabF (rowsOf rows owners who) (targetOf rows)) (targetOf rows).length (rowsOf rows owners who).length y) : accB rows owners who = true := by
  cases h : accB rows owners who with
  | true => rfl
  | false => exact absurd hy (sol_none (rowsOf_right (who := who) h0) (targetOf_nums rows) h y)

def boardR : List (List Int) := [[1, 1], [1, 2], [1, 3]]
theorem board_prog : progErr boardR [0, 1, 2] = 0 := by decide +kernel
theorem board_acc : accB boardR [0, 1, 2] [0, 2] = true := by
  refine acc_of board_prog (fun j => if j = 0 then 536870896 else -536870895) (fun i hi => ?_)
  have h2 : (targetOf boardR).length = 2 := by decide +kernel
  rw [h2] at hi
  have : i = 0 ∨ i = 1 := by omega
  rcases this with rfl | rfl <;> decide +kernel
theorem board_no : accB boardR [0, 1, 2] [0] = false := by
  cases h : accB boardR [0, 1, 2] [0] with
  | false => rfl
  | true =>
    have c0 := wt_col board_prog h 0 (by decide +kernel)
    have c1 := wt_col board_prog h 1 (by decide +kernel)
    have w1 : wt boardR [0, 1, 2] [0] 1 = 0 := wt_none (by decide) (by decide)
    have w2 : wt boardR [0, 1, 2] [0] 2 = 0 := wt_none (by decide) (by decide)
    have e0 : sumTo (fun i => wt boardR [0, 1, 2] [0] i * (boardR.getD i []).getD 0 0) boardR.length = wt boardR [0, 1, 2] [0] 0 := by
      show (0 + wt boardR [0, 1, 2] [0] 0 * 1) + wt boardR [0, 1, 2] [0] 1 * 1 + wt boardR [0, 1, 2] [0] 2 * 1 = wt boardR [0, 1, 2] [0] 0
      rw [w1, w2]; omega
    have e1 : sumTo (fun i => wt boardR [0, 1, 2] [0] i * (boardR.getD i []).getD 1 0) boardR.length = wt boardR [0, 1, 2] [0] 0 := by
      show (0 + wt boardR [0, 1, 2] [0] 0 * 1) + wt boardR [0, 1, 2] [0] 1 * 2 + wt boardR [0, 1, 2] [0] 2 * 3 = wt boardR [0, 1, 2] [0] 0
      rw [w1, w2]; omega
    rw [e0] at c0
    rw [e1] at c1
    rw [c1] at c0
    exact absurd c0 (by decide)

end Go.Proofs.YtgacdmkhgllceaaGreatDoor
