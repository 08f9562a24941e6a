/- The pure law of the reduction of a table: what solves the reduced table solves the first one. -/
import Derived.Test.YtgacdmkhgllceaaGreatDoorZLin1
import Derived.Test.YtgacdmkhgllceaaGreatDoorZMSum
namespace Go.Proofs.YtgacdmkhgllceaaGreatDoor

theorem inv_mul {a : Int} (h1 : 0 < a) (h2 : a < 1073741789) : md (a * inv a) = 1 := by
  have e : md a = a := by unfold md; omega
  unfold inv
  rw [if_neg (by rw [e]; omega)]
  unfold pwQ
  rw [md_mul_right]
  obtain ⟨n, rfl⟩ := Int.eq_ofNat_of_zero_le (Int.le_of_lt h1)
  have hp := Sg.pow_mod_two Sg.prime_Q (by decide) (Sg.prime_Q.2 n (by omega) (by unfold Sg.Q; omega))
  have hq : Sg.Q - 1 = eQ + 1 := by decide
  rw [hq, Nat.pow_succ] at hp
  have e2 : (n : Int) * (n : Int) ^ eQ = ((n ^ eQ * n : Nat) : Int) := by rw [Int.natCast_mul, Int.natCast_pow, Int.mul_comm]
  rw [e2]
  generalize n ^ eQ * n = z at hp ⊢
  unfold md
  unfold Sg.Q at hp
  omega

theorem md_sub_eq {a b : Int} : md a = md b ↔ md (a - b) = 0 := by unfold md; omega
theorem md_eq_mul {a b : Int} (c : Int) (h : md a = md b) : md (c * a) = md (c * b) := by
  rw [← md_mul_right c a, h, md_mul_right]
theorem md_eq_add {a b c d : Int} (h : md a = md b) (h' : md c = md d) : md (a + c) = md (b + d) := by unfold md at *; omega
theorem md_eq_sub {a b c d : Int} (h : md a = md b) (h' : md c = md d) : md (a - c) = md (b - d) := by unfold md at *; omega

/-- A sum. -/
def sumTo (g : Nat → Int) : Nat → Int
  | 0 => 0
  | k + 1 => sumTo g k + g k
theorem sumTo_md {g h : Nat → Int} : ∀ k, (∀ j, j < k → md (g j) = md (h j)) → md (sumTo g k) = md (sumTo h k)
  | 0, _ => rfl
  | k + 1, e => md_eq_add (sumTo_md k fun j hj => e j (by omega)) (e k (by omega))
theorem sumTo_mul (c : Int) (g : Nat → Int) : ∀ k, sumTo (fun j => c * g j) k = c * sumTo g k
  | 0 => by simp [sumTo]
  | k + 1 => by simp only [sumTo, sumTo_mul c g k, Int.mul_add]
theorem sumTo_sub (g h : Nat → Int) : ∀ k, sumTo (fun j => g j - h j) k = sumTo g k - sumTo h k
  | 0 => rfl
  | k + 1 => by simp only [sumTo, sumTo_sub g h k]; omega

/-- y solves the table's equations: the last column is what they come to. -/
def Sol (f : Nat → Nat → Int) (n mm : Nat) (y : Nat → Int) : Prop := ∀ i, i < n → md (sumTo (fun j => f i j * y j) mm) = md (f i mm)

def swapR (f : Nat → Nat → Int) (r k : Nat) : Nat → Nat → Int := fun i => if i = r then f k else if i = k then f r else f i
def scaleP (f : Nat → Nat → Int) (r c q : Nat) (nv : Int) : Nat → Nat → Int := fun i j => if i = r ∧ c ≤ j ∧ j < c + q then mul (f r j) nv else f i j
def clrA (f : Nat → Nat → Int) (r c m q : Nat) : Nat → Nat → Int := fun i j => if i < q ∧ i ≠ r ∧ f i c ≠ 0 ∧ c ≤ j ∧ j < m then add (f i j) (-(mul (f i c) (f r j))) else f i j

theorem Sol.swap {f : Nat → Nat → Int} {n mm r k : Nat} {y : Nat → Int} (hr : r < n) (hk : k < n) (h : Sol (swapR f r k) n mm y) : Sol f n mm y := by
  intro i hi
  by_cases e : i = r
  · subst e
    have := h k hk
    unfold swapR at this
    by_cases e2 : k = i
    · subst e2; simpa using this
    · simpa [e2] using this
  · by_cases e2 : i = k
    · subst e2
      have := h r hr
      unfold swapR at this
      simpa using this
    · have := h i hi
      unfold swapR at this
      simpa [e, e2] using this

theorem Sol.row {f f' : Nat → Nat → Int} {n mm : Nat} {y : Nat → Int} (r : Nat) (hr : r < n) (a nv : Int) (ha : md (a * nv) = 1) (e1 : ∀ j, j ≤ mm → md (f' r j) = md (nv * f r j)) (e2 : ∀ i j, i ≠ r → f' i j = f i j) (h : Sol f' n mm y) : Sol f n mm y := by
  intro i hi
  by_cases e : i = r
  · subst e
    have h1 := h i hi
    have h2 : md (sumTo (fun j => f' i j * y j) mm) = md (nv * sumTo (fun j => f i j * y j) mm) := by
      rw [← sumTo_mul]
      refine sumTo_md mm fun j hj => ?_
      rw [Int.mul_comm, md_eq_mul (y j) (e1 j (by omega)), ← Int.mul_assoc, Int.mul_comm (y j), Int.mul_assoc, Int.mul_comm (y j)]
    rw [h2, e1 mm (Nat.le_refl _)] at h1
    have h3 := md_eq_mul a h1
    rw [← Int.mul_assoc, ← Int.mul_assoc, ← md_mul_left, ha, ← md_mul_left (a * nv), ha, Int.one_mul, Int.one_mul] at h3
    exact h3
  · have := h i hi
    simpa [e2 i _ e] using this

theorem Sol.combine {f f' : Nat → Nat → Int} {n mm : Nat} {y : Nat → Int} (r : Nat) (hr : r < n) (t : Nat → Int) (e1 : ∀ i j, i ≠ r → j ≤ mm → md (f' i j) = md (f i j - t i * f r j)) (e2 : ∀ j, f' r j = f r j) (h : Sol f' n mm y) : Sol f n mm y := by
  have hrr : md (sumTo (fun j => f r j * y j) mm) = md (f r mm) := by
    have := h r hr
    simpa [e2] using this
  intro i hi
  by_cases e : i = r
  · subst e; exact hrr
  · have h1 := h i hi
    have h2 : md (sumTo (fun j => f' i j * y j) mm) = md (sumTo (fun j => f i j * y j) mm - t i * sumTo (fun j => f r j * y j) mm) := by
      rw [← sumTo_mul, ← sumTo_sub]
      refine sumTo_md mm fun j hj => ?_
      rw [Int.mul_comm, md_eq_mul (y j) (e1 i j e (by omega)), Int.mul_sub, Int.mul_comm (y j), ← Int.mul_assoc, Int.mul_comm (y j) (t i), Int.mul_assoc, Int.mul_comm (y j)]
    rw [h2, e1 i mm e (Nat.le_refl _)] at h1
    have h3 := md_eq_mul (t i) hrr
    have := md_eq_add h1 h3
    simpa [Int.sub_add_cancel] using this

/-- The first row from r on that is not 0 at a column; n where there is none. -/
def fz (f : Nat → Nat → Int) (c n r : Nat) : Nat := ((List.range' r (n - r)).find? (fun k => decide (f k c ≠ 0))).getD n
theorem fz_none {f : Nat → Nat → Int} {c n r : Nat} (h : ∀ i, r ≤ i → i < n → f i c = 0) : fz f c n r = n := by
  unfold fz
  rw [List.find?_eq_none.2 (fun i hi => by have := List.mem_range'_1.1 hi; simp [h i this.1 (by omega)])]
  rfl
theorem fz_some {f : Nat → Nat → Int} {c n r k : Nat} (h1 : r ≤ k) (h2 : k < n) (h3 : ∀ i, r ≤ i → i < k → f i c = 0) (h4 : f k c ≠ 0) : fz f c n r = k := by
  unfold fz
  have : (List.range' r (n - r)).find? (fun k => decide (f k c ≠ 0)) = some k := by
    have e : List.range' r (n - r) = List.range' r (k - r) ++ k :: List.range' (k + 1) (n - k - 1) := by
      rw [show n - r = (k - r) + ((n - k - 1) + 1) by omega, ← List.range'_append_1, List.range'_succ, show r + (k - r) = k by omega]
    rw [e, List.find?_append, List.find?_eq_none.2 (fun i hi => by have := List.mem_range'_1.1 hi; simp [h3 i this.1 (by omega)])]
    simp [h4]
  rw [this]; rfl

/-- One column of the reduction: the table, and the pivots. -/
def redStep (n m : Nat) (s : (Nat → Nat → Int) × List Nat) (c : Nat) : (Nat → Nat → Int) × List Nat :=
  if n ≤ fz s.1 c n s.2.length then s
  else
    (clrA (scaleP (swapR s.1 s.2.length (fz s.1 c n s.2.length)) s.2.length c (m - c) (inv (swapR s.1 s.2.length (fz s.1 c n s.2.length) s.2.length c))) s.2.length c m n, s.2 ++ [c])
def redTo (n m : Nat) (f : Nat → Nat → Int) : Nat → (Nat → Nat → Int) × List Nat
  | 0 => (f, [])
  | c + 1 => redStep n m (redTo n m f c) c

/-- What holds behind c columns. -/
structure Red (n m c : Nat) (s : (Nat → Nat → Int) × List Nat) : Prop where
  nrm : ∀ i j, i < n → j < m → 0 ≤ s.1 i j ∧ s.1 i j < 1073741789
  len : s.2.length ≤ n
  lt : ∀ (j : Nat) p, s.2[j]? = some p → p < c
  inc : ∀ (i j : Nat) p q, s.2[i]? = some p → s.2[j]? = some q → i < j → p < q
  piv : ∀ (i j : Nat) p, i < n → s.2[j]? = some p → s.1 i p = if i = j then 1 else 0
  zero : ∀ i, s.2.length ≤ i → i < n → ∀ c', c' < c → s.1 i c' = 0

theorem md_id {a : Int} (h : 0 ≤ a ∧ a < 1073741789) : md a = a := by unfold md; omega


theorem fz_cases (f : Nat → Nat → Int) (c n r : Nat) : (r ≤ fz f c n r ∧ fz f c n r < n ∧ f (fz f c n r) c ≠ 0 ∧ ∀ i, r ≤ i → i < fz f c n r → f i c = 0) ∨ (fz f c n r = n ∧ ∀ i, r ≤ i → i < n → f i c = 0) := by
  have key : ∀ d, (∃ k, r ≤ k ∧ k < n ∧ f k c ≠ 0 ∧ ∀ i, r ≤ i → i < k → f i c = 0) ∨ (∀ i, r ≤ i → i < r + d → i < n → f i c = 0) := by
    intro d
    induction d with
    | zero => exact .inr fun i h1 h2 => by omega
    | succ d ih =>
      rcases ih with h | h
      · exact .inl h
      · by_cases e : r + d < n ∧ f (r + d) c ≠ 0
        · exact .inl ⟨r + d, by omega, e.1, e.2, fun i h1 h2 => h i h1 h2 (by omega)⟩
        · refine .inr fun i h1 h2 h3 => ?_
          by_cases e2 : i = r + d
          · subst e2
            exact Decidable.byContradiction fun hne => e ⟨h3, hne⟩
          · exact h i h1 (by omega) h3
  rcases key n with ⟨k, h1, h2, h3, h4⟩ | h
  · rw [fz_some h1 h2 h4 h3]; exact .inl ⟨h1, h2, h3, h4⟩
  · have h' : ∀ i, r ≤ i → i < n → f i c = 0 := fun i h1 h2 => h i h1 (by omega) h2
    exact .inr ⟨fz_none h', h'⟩

theorem snoc_get {ps : List Nat} {c j p : Nat} (h : (ps ++ [c])[j]? = some p) : ps[j]? = some p ∨ (j = ps.length ∧ p = c) := by
  rcases Nat.lt_or_ge j ps.length with q | q
  · rw [List.getElem?_append_left q] at h; exact .inl h
  · rw [List.getElem?_append_right q] at h
    have : j - ps.length = 0 := by
      rcases Nat.eq_zero_or_pos (j - ps.length) with z | z
      · exact z
      · rw [List.getElem?_eq_none (by simp; omega)] at h; cases h
    rw [this] at h
    simp at h
    exact .inr ⟨by omega, h.symm⟩

theorem Red.step {n m c : Nat} {s : (Nat → Nat → Int) × List Nat} (h : Red n m c s) (hc : c < m) : Red n m (c + 1) (redStep n m s c) ∧ (c + 1 < m → ∀ y, Sol (redStep n m s c).1 n (m - 1) y → Sol s.1 n (m - 1) y) := by
  obtain ⟨f, ps⟩ := s
  obtain ⟨nrm, len, lt, inc, piv, zero⟩ := h
  dsimp only at nrm len lt inc piv zero
  rcases fz_cases f c n ps.length with ⟨k1, k2, k3, k4⟩ | ⟨k1, k2⟩
  · generalize hk : fz f c n ps.length = k at k1 k2 k3 k4
    have e : redStep n m (f, ps) c = (clrA (scaleP (swapR f ps.length k) ps.length c (m - c) (inv (swapR f ps.length k ps.length c))) ps.length c m n, ps ++ [c]) := by
      unfold redStep; rw [if_neg (by dsimp only; rw [hk]; omega)]; dsimp only; rw [hk]
    rw [e]
    dsimp only
    generalize hr : ps.length = r at *
    have hrn : r < n := by omega
    obtain ⟨f1, hf1⟩ : ∃ f1, f1 = swapR f r k := ⟨_, rfl⟩
    rw [← hf1]
    have f1r : f1 r = f k := by rw [hf1]; unfold swapR; rw [if_pos rfl]
    have f1k : ∀ i, i ≠ r → i = k → f1 i = f r := fun i h1 h2 => by rw [hf1]; unfold swapR; rw [if_neg h1, if_pos h2]
    have f1o : ∀ i, i ≠ r → i ≠ k → f1 i = f i := fun i h1 h2 => by rw [hf1]; unfold swapR; rw [if_neg h1, if_neg h2]
    have nrm1 : ∀ i j, i < n → j < m → 0 ≤ f1 i j ∧ f1 i j < 1073741789 := fun i j hi hj => by
      by_cases q : i = r
      · subst q; rw [f1r]; exact nrm k j k2 hj
      · by_cases q2 : i = k
        · rw [f1k i q q2]; exact nrm r j hrn hj
        · rw [f1o i q q2]; exact nrm i j hi hj
    have zero1 : ∀ i, r ≤ i → i < n → ∀ c', c' < c → f1 i c' = 0 := fun i h1 h2 c' h3 => by
      by_cases q : i = r
      · subst q; rw [f1r]; exact zero k k1 k2 c' h3
      · by_cases q2 : i = k
        · rw [f1k i q q2]; exact zero r (Nat.le_refl _) hrn c' h3
        · rw [f1o i q q2]; exact zero i h1 h2 c' h3
    have piv1 : ∀ (i j : Nat) p, i < n → ps[j]? = some p → f1 i p = if i = j then 1 else 0 := fun i j p hi hp => by
      have hj : j < r := by rw [← hr]; exact (List.getElem?_eq_some_iff.1 hp).1
      by_cases q : i = r
      · subst q; rw [f1r, piv k j p k2 hp, if_neg (by omega), if_neg (by omega)]
      · by_cases q2 : i = k
        · rw [f1k i q q2, piv r j p hrn hp, if_neg (by omega), if_neg (by omega)]
        · rw [f1o i q q2]; exact piv i j p hi hp
    have hne : f1 r c ≠ 0 := by rw [f1r]; exact k3
    have hb := nrm1 r c hrn hc
    have hinv : md (f1 r c * inv (f1 r c)) = 1 := inv_mul (by omega) hb.2
    generalize hnv : inv (f1 r c) = nv at hinv ⊢
    obtain ⟨f2, hf2⟩ : ∃ f2, f2 = scaleP f1 r c (m - c) nv := ⟨_, rfl⟩
    rw [← hf2]
    have f2o : ∀ i, i ≠ r → f2 i = f1 i := fun i h1 => by funext j; rw [hf2]; unfold scaleP; rw [if_neg (fun h => h1 h.1)]
    have f2l : ∀ j, j < c → f2 r j = 0 := fun j hj => by rw [hf2]; unfold scaleP; rw [if_neg (by omega)]; exact zero1 r (Nat.le_refl _) hrn j hj
    have f2h : ∀ j, c ≤ j → j < m → f2 r j = mul (f1 r j) nv := fun j h1 h2 => by rw [hf2]; unfold scaleP; rw [if_pos ⟨rfl, h1, by omega⟩]
    have f2c : f2 r c = 1 := by rw [f2h c (Nat.le_refl _) hc]; exact hinv
    have nrm2 : ∀ i j, i < n → j < m → 0 ≤ f2 i j ∧ f2 i j < 1073741789 := fun i j hi hj => by
      by_cases q : i = r
      · subst q
        rcases Nat.lt_or_ge j c with q | q
        · rw [f2l j q]; decide
        · rw [f2h j q hj]; exact md_bd _
      · rw [f2o i q]; exact nrm1 i j hi hj
    obtain ⟨f3, hf3⟩ : ∃ f3, f3 = clrA f2 r c m n := ⟨_, rfl⟩
    rw [← hf3]
    have f3r : ∀ j, f3 r j = f2 r j := fun j => by rw [hf3]; unfold clrA; rw [if_neg (fun h => h.2.1 rfl)]
    have f3l : ∀ i j, j < c → f3 i j = f2 i j := fun i j hj => by rw [hf3]; unfold clrA; rw [if_neg (by omega)]
    have f3z : ∀ i j, f2 i c = 0 → f3 i j = f2 i j := fun i j hz => by rw [hf3]; unfold clrA; rw [if_neg (fun h => h.2.2.1 hz)]
    have f3h : ∀ i j, i < n → i ≠ r → f2 i c ≠ 0 → c ≤ j → j < m → f3 i j = md (f2 i j - f2 i c * f2 r j) := fun i j h1 h2 h3 h4 h5 => by
      rw [hf3]; unfold clrA; rw [if_pos ⟨h1, h2, h3, h4, h5⟩]
      unfold add mul md; omega
    have f3c : ∀ i, i < n → i ≠ r → f3 i c = 0 := fun i h1 h2 => by
      by_cases q : f2 i c = 0
      · rw [f3z i c q]; exact q
      · rw [f3h i c h1 h2 q (Nat.le_refl _) hc, f2c, Int.mul_one, Int.sub_self]; rfl
    refine ⟨⟨fun i j hi hj => ?_, ?_, fun j p hp => ?_, fun i j p q hp hq hij => ?_, fun i j p hi hp => ?_, fun i h1 h2 c' h3 => ?_⟩, fun hcm y hy => ?_⟩
    · dsimp only
      by_cases q : i = r
      · subst q; rw [f3r]; exact nrm2 i j hi hj
      · by_cases q2 : f2 i c = 0
        · rw [f3z i j q2]; exact nrm2 i j hi hj
        · rcases Nat.lt_or_ge j c with q3 | q3
          · rw [f3l i j q3]; exact nrm2 i j hi hj
          · rw [f3h i j hi q q2 q3 hj]; exact md_bd _
    · simp; omega
    · rcases snoc_get hp with hp | ⟨_, rfl⟩
      · have := lt j p hp; omega
      · omega
    · rcases snoc_get hq with hq2 | ⟨e1, e1'⟩
      · have h9 : j < ps.length := (List.getElem?_eq_some_iff.1 hq2).1
        rcases snoc_get hp with hp2 | ⟨e2, _⟩
        · exact inc i j p q hp2 hq2 hij
        · omega
      · rcases snoc_get hp with hp2 | ⟨e2, _⟩
        · rw [e1']; exact lt i p hp2
        · omega
    · dsimp only
      rcases snoc_get hp with hp | ⟨e1, rfl⟩
      · have hpc := lt j p hp
        rw [f3l i p hpc]
        by_cases q : i = r
        · subst q
          have hj : j < i := by rw [← hr]; exact (List.getElem?_eq_some_iff.1 hp).1
          rw [f2l p hpc, if_neg (by omega)]
        · rw [f2o i q]; exact piv1 i j p hi hp
      · by_cases q : i = r
        · subst q; rw [f3r, f2c, if_pos (by omega)]
        · rw [f3c i hi q, if_neg (by omega)]
    · dsimp only
      have hi : r < i := by rw [show ((f3, ps ++ [c]).2).length = r + 1 by simp [hr]] at h1; omega
      rcases Nat.lt_or_ge c' c with q | q
      · rw [f3l i c' q, f2o i (by omega)]; exact zero1 i (by omega) h2 c' q
      · have : c' = c := by omega
        subst this; exact f3c i h2 (by omega)
    · have hs2 : Sol f2 n (m - 1) y := by
        refine Sol.combine r hrn (fun i => if i < n then f2 i c else 0) (fun i j hne hj => ?_) f3r hy
        by_cases hi : i < n
        · rw [if_pos hi]
          rcases Nat.lt_or_ge j c with q | q
          · rw [f3l i j q, f2l j q, Int.mul_zero, Int.sub_zero]
          · by_cases q2 : f2 i c = 0
            · rw [f3z i j q2, q2, Int.zero_mul, Int.sub_zero]
            · rw [f3h i j hi hne q2 q (by omega), md_md]
        · rw [if_neg hi, Int.zero_mul, Int.sub_zero, hf3]
          unfold clrA; rw [if_neg (fun h => hi h.1)]
      have hs1 : Sol f1 n (m - 1) y := by
        refine Sol.row r hrn (f1 r c) nv hinv (fun j hj => ?_) (fun i j hne => by rw [f2o i hne]) hs2
        rcases Nat.lt_or_ge j c with q | q
        · rw [f2l j q, zero1 r (Nat.le_refl _) hrn j q, Int.mul_zero]
        · rw [f2h j q (by omega)]; unfold mul; rw [md_md, Int.mul_comm]
      rw [hf1] at hs1
      exact Sol.swap hrn k2 hs1
  · have e : redStep n m (f, ps) c = (f, ps) := by
      unfold redStep; rw [if_pos (by dsimp only; rw [k1]; exact Nat.le_refl _)]
    rw [e]
    refine ⟨⟨nrm, len, fun j p hp => by have := lt j p hp; omega, inc, piv, fun i h1 h2 c' h3 => ?_⟩, fun _ y hy => hy⟩
    rcases Nat.lt_or_ge c' c with q | q
    · exact zero i h1 h2 c' q
    · have : c' = c := by omega
      subst this; exact k2 i h1 h2

theorem redTo_red {n m : Nat} {f : Nat → Nat → Int} (h : ∀ i j, i < n → j < m → 0 ≤ f i j ∧ f i j < 1073741789) : ∀ c, c < m → Red n m c (redTo n m f c) ∧ ∀ y, Sol (redTo n m f c).1 n (m - 1) y → Sol f n (m - 1) y
  | 0, _ => ⟨⟨h, Nat.zero_le _, fun j p hp => by simp [redTo] at hp, fun i j p q hp => by simp [redTo] at hp, fun i j p _ hp => by simp [redTo] at hp, fun i _ _ c' h => by omega⟩, fun y hy => hy⟩
  | c + 1, hc => by
    obtain ⟨h1, h2⟩ := redTo_red h c (by omega)
    obtain ⟨h3, h4⟩ := h1.step (by omega)
    exact ⟨h3, fun y hy => h2 y (h4 hc y hy)⟩


/-- What Combine reads off: at each pivot its row's last number. -/
def yTo (s : (Nat → Nat → Int) × List Nat) (mm : Nat) : Nat → Nat → Int
  | 0 => fun _ => 0
  | q + 1 => upd (yTo s mm q) (s.2.getD q 0) (s.1 q mm)

theorem yTo_none {s : (Nat → Nat → Int) × List Nat} {mm : Nat} : ∀ q c, q ≤ s.2.length → (∀ k, k < q → s.2[k]? ≠ some c) → yTo s mm q c = 0
  | 0, _, _, _ => rfl
  | q + 1, c, hq, h => by
    have h1 : s.2[q]? = some (s.2.getD q 0) := by simp [show q < s.2.length by omega]
    have : c ≠ s.2.getD q 0 := fun e => h q (by omega) (by rw [h1, e])
    show upd _ _ _ _ = _
    rw [upd_ne _ _ this]
    exact yTo_none q c (by omega) fun k hk => h k (by omega)
theorem yTo_at {n m c : Nat} {s : (Nat → Nat → Int) × List Nat} (h : Red n m c s) {mm : Nat} : ∀ q k p, q ≤ s.2.length → k < q → s.2[k]? = some p → yTo s mm q p = s.1 k mm
  | 0, _, _, _, hk, _ => by omega
  | q + 1, k, p, hq, hk, hp => by
    have h1 : s.2[q]? = some (s.2.getD q 0) := by simp [show q < s.2.length by omega]
    show upd _ _ _ _ = _
    by_cases e : k = q
    · subst e
      have : p = s.2.getD k 0 := by rw [hp] at h1; exact Option.some.inj h1
      rw [this, upd_same]
    · have := h.inc k q p _ hp h1 (by omega)
      rw [upd_ne _ _ (by omega)]
      exact yTo_at h q k p (by omega) (by omega) hp

theorem sumTo_zero {g : Nat → Int} : ∀ k, (∀ j, j < k → g j = 0) → sumTo g k = 0
  | 0, _ => rfl
  | k + 1, h => by simp only [sumTo, h k (by omega), sumTo_zero k fun j hj => h j (by omega)]; rfl
theorem sumTo_one {g : Nat → Int} {p : Nat} : ∀ k, p < k → (∀ j, j < k → j ≠ p → g j = 0) → sumTo g k = g p
  | 0, h, _ => by omega
  | k + 1, h, hz => by
    by_cases e : p = k
    · subst e
      simp only [sumTo, sumTo_zero p fun j hj => hz j (by omega) (by omega)]; omega
    · simp only [sumTo, hz k (by omega) (by omega), sumTo_one k (by omega) fun j hj hne => hz j (by omega) hne]; omega

/-- THE ANSWER SOLVES THE TABLE. -/
theorem Red.solve {n m : Nat} {s : (Nat → Nat → Int) × List Nat} (h : Red n m (m - 1) s) (hz : ∀ k, s.2.length ≤ k → k < n → s.1 k (m - 1) = 0) : Sol s.1 n (m - 1) (yTo s (m - 1) s.2.length) := by
  intro i hi
  by_cases e : i < s.2.length
  · have hp : s.2[i]? = some s.2[i] := List.getElem?_eq_getElem e
    rw [sumTo_one (p := s.2[i]) (m - 1) (h.lt i _ hp) (fun j hj hne => ?_)]
    · rw [h.piv i i _ hi hp, if_pos rfl, Int.one_mul, yTo_at h s.2.length i _ (Nat.le_refl _) e hp]
    · by_cases q : ∃ k : Nat, s.2[k]? = some j
      · obtain ⟨k, hk⟩ := q
        have hki : k ≠ i := fun e2 => hne (by subst e2; rw [hp] at hk; exact (Option.some.inj hk).symm)
        rw [h.piv i k _ hi hk, if_neg (fun e2 => hki e2.symm), Int.zero_mul]
      · rw [yTo_none s.2.length j (Nat.le_refl _) (fun k _ hk => q ⟨k, hk⟩), Int.mul_zero]
  · rw [sumTo_zero (m - 1) (fun j hj => by rw [h.zero i (by omega) hi j hj, Int.zero_mul]), hz i (by omega) hi]

end Go.Proofs.YtgacdmkhgllceaaGreatDoor
