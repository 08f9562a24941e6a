/-! Plain facts on sums and permutations of lists of numbers. -/
namespace Sg

theorem perm_of_nodup {α : Type} [DecidableEq α] : ∀ (l m : List α), l.Nodup → (∀ x, x ∈ l → x ∈ m) → m.length ≤ l.length → l.Perm m
  | [], m, _, _, hl => by
    have : m = [] := List.length_eq_zero_iff.1 (by simpa using hl)
    rw [this]
  | x :: l, m, hn, hs, hl => by
    have hx : x ∈ m := hs x (by simp)
    have hp : m.Perm (x :: m.erase x) := List.perm_cons_erase hx
    have hn' := List.nodup_cons.1 hn
    have ih := perm_of_nodup l (m.erase x) hn'.2 (fun y hy => by
      have hne : y ≠ x := fun e => hn'.1 (e ▸ hy)
      exact (List.mem_erase_of_ne hne).2 (hs y (by simp [hy]))) (by
      have := List.length_erase_of_mem hx
      have h2 : (x :: l).length = l.length + 1 := rfl
      omega)
    exact (ih.cons x).trans hp.symm

/-- The numbers from 1 to h. -/
def upto (h : Nat) : List Nat := (List.range h).map (· + 1)

theorem mem_upto {h k : Nat} : k ∈ upto h ↔ 1 ≤ k ∧ k ≤ h := by
  simp only [upto, List.mem_map, List.mem_range]
  constructor
  · rintro ⟨a, h1, rfl⟩; omega
  · rintro ⟨h1, h2⟩; exact ⟨k - 1, by omega, by omega⟩

theorem length_upto (h : Nat) : (upto h).length = h := by simp [upto]

theorem nodup_map_on {α β : Type} (f : α → β) : ∀ (l : List α), l.Nodup → (∀ x, x ∈ l → ∀ y, y ∈ l → f x = f y → x = y) → (l.map f).Nodup
  | [], _, _ => by simp
  | a :: l, hn, hf => by
    have hn' := List.nodup_cons.1 hn
    rw [List.map_cons, List.nodup_cons]
    refine ⟨?_, nodup_map_on f l hn'.2 (fun x hx y hy => hf x (by simp [hx]) y (by simp [hy]))⟩
    intro hm
    obtain ⟨b, hb, he⟩ := List.mem_map.1 hm
    have := hf b (by simp [hb]) a (by simp) he
    exact hn'.1 (this ▸ hb)

theorem nodup_upto (h : Nat) : (upto h).Nodup :=
  nodup_map_on _ _ List.nodup_range (fun x _ y _ e => by simpa using e)

/-- A map of the numbers from 1 to h into themselves that takes no two to one permutes them. -/
theorem perm_upto (h : Nat) (f : Nat → Nat) (hf : ∀ k, 1 ≤ k → k ≤ h → 1 ≤ f k ∧ f k ≤ h)
    (hi : ∀ x y, 1 ≤ x → x ≤ h → 1 ≤ y → y ≤ h → f x = f y → x = y) : ((upto h).map f).Perm (upto h) := by
  refine perm_of_nodup _ _ (nodup_map_on f _ (nodup_upto h) ?_) ?_ (by simp)
  · intro x hx y hy e
    have hx := mem_upto.1 hx; have hy := mem_upto.1 hy
    exact hi x y hx.1 hx.2 hy.1 hy.2 e
  · intro x hx
    obtain ⟨k, hk, rfl⟩ := List.mem_map.1 hx
    have hk := mem_upto.1 hk
    exact mem_upto.2 (hf k hk.1 hk.2)

/-- The sum of a function over a list. -/
def sm (l : List Nat) (f : Nat → Nat) : Nat := (l.map f).foldr (· + ·) 0
/-- The product of a function over a list. -/
def pr (l : List Nat) (f : Nat → Nat) : Nat := (l.map f).foldr (· * ·) 1

theorem sm_nil (f : Nat → Nat) : sm [] f = 0 := rfl
theorem sm_cons (a : Nat) (l : List Nat) (f : Nat → Nat) : sm (a :: l) f = f a + sm l f := rfl
theorem pr_nil (f : Nat → Nat) : pr [] f = 1 := rfl
theorem pr_cons (a : Nat) (l : List Nat) (f : Nat → Nat) : pr (a :: l) f = f a * pr l f := rfl

theorem sm_perm {l m : List Nat} (h : l.Perm m) (f : Nat → Nat) : sm l f = sm m f := by
  induction h with
  | nil => rfl
  | cons x _ ih => simp [sm_cons, ih]
  | swap x y l => simp [sm_cons]; omega
  | trans _ _ h1 h2 => exact h1.trans h2

theorem pr_perm {l m : List Nat} (h : l.Perm m) (f : Nat → Nat) : pr l f = pr m f := by
  induction h with
  | nil => rfl
  | cons x _ ih => simp [pr_cons, ih]
  | swap x y l => simp only [pr_cons]; exact Nat.mul_left_comm _ _ _
  | trans _ _ h1 h2 => exact h1.trans h2

theorem sm_map (l : List Nat) (g f : Nat → Nat) : sm (l.map g) f = sm l (fun k => f (g k)) := by
  simp [sm, List.map_map, Function.comp_def]
theorem pr_map (l : List Nat) (g f : Nat → Nat) : pr (l.map g) f = pr l (fun k => f (g k)) := by
  simp [pr, List.map_map, Function.comp_def]

theorem sm_congr {l : List Nat} {f g : Nat → Nat} (h : ∀ k, k ∈ l → f k = g k) : sm l f = sm l g := by
  unfold sm; rw [List.map_congr_left h]

theorem sm_add (l : List Nat) (f g : Nat → Nat) : sm l (fun k => f k + g k) = sm l f + sm l g := by
  induction l with
  | nil => rfl
  | cons a l ih => simp only [sm_cons, ih]; omega

theorem sm_const (l : List Nat) (c : Nat) : sm l (fun _ => c) = l.length * c := by
  induction l with
  | nil => simp [sm_nil]
  | cons a l ih => simp only [sm_cons, ih, List.length_cons]; rw [Nat.succ_mul]; omega

theorem sm_mul (l : List Nat) (c : Nat) (f : Nat → Nat) : sm l (fun k => c * f k) = c * sm l f := by
  induction l with
  | nil => simp [sm_nil]
  | cons a l ih => simp only [sm_cons, ih, Nat.mul_add]

theorem sm_mod2 (l : List Nat) (f g : Nat → Nat) (h : ∀ k, k ∈ l → f k % 2 = g k % 2) : sm l f % 2 = sm l g % 2 := by
  induction l with
  | nil => rfl
  | cons a l ih =>
    simp only [sm_cons]
    have h1 := h a (by simp)
    have h2 := ih (fun k hk => h k (by simp [hk]))
    omega

theorem sm_swap (l m : List Nat) (f : Nat → Nat → Nat) : sm l (fun a => sm m (fun b => f a b)) = sm m (fun b => sm l (fun a => f a b)) := by
  induction l with
  | nil => simp [sm_nil, sm_const]
  | cons a l ih => simp only [sm_cons, ih, sm_add]

theorem sm_upto_succ (h : Nat) (f : Nat → Nat) : sm (upto (h + 1)) f = sm (upto h) f + f (h + 1) := by
  have : upto (h + 1) = upto h ++ [h + 1] := by simp [upto, List.range_succ]
  rw [this]
  generalize upto h = l
  induction l with
  | nil => simp [sm_cons, sm_nil]
  | cons a l ih => simp only [List.cons_append, sm_cons, ih]; omega

/-- How many of the numbers from 1 to h are at most c. -/
theorem sm_le (h c : Nat) : sm (upto h) (fun k => if k ≤ c then 1 else 0) = min h c := by
  induction h with
  | zero => simp [upto, sm_nil]
  | succ h ih => rw [sm_upto_succ, ih]; split <;> omega

end Sg

/-! The sign that Gauss's lemma counts, for odd numbers, and its laws. -/
namespace Sg

/-- 1 if the remainder of a * k is in the greater half. -/
def neg (n a k : Nat) : Nat := if n / 2 < a * k % n then 1 else 0
/-- The distance of a * k to the next multiple of n. -/
def ab (n a k : Nat) : Nat := if n / 2 < a * k % n then n - a * k % n else a * k % n
/-- How many remainders are in the greater half. -/
def gs (n a : Nat) : Nat := sm (upto (n / 2)) (neg n a)

theorem rem_ne {n a k : Nat} (hc : Nat.Coprime n a) (h1 : 1 ≤ k) (h2 : k < n) : a * k % n ≠ 0 := by
  intro h
  have hd : n ∣ a * k := Nat.dvd_of_mod_eq_zero h
  have := hc.dvd_of_dvd_mul_left hd
  have := Nat.le_of_dvd (by omega) this
  omega

theorem ab_range {n a k : Nat} (hn : n % 2 = 1) (hc : Nat.Coprime n a) (h1 : 1 ≤ k) (h2 : k ≤ n / 2) : 1 ≤ ab n a k ∧ ab n a k ≤ n / 2 := by
  have h := rem_ne hc h1 (by omega)
  have hl := Nat.mod_lt (a * k) (show n > 0 by omega)
  unfold ab
  split <;> omega

theorem ab_inj {n a x y : Nat} (hn : n % 2 = 1) (hc : Nat.Coprime n a) (hx : 1 ≤ x) (hx2 : x ≤ n / 2) (hy : 1 ≤ y) (hy2 : y ≤ n / 2)
    (e : ab n a x = ab n a y) : x = y := by
  have hlx := Nat.mod_lt (a * x) (show n > 0 by omega)
  have hly := Nat.mod_lt (a * y) (show n > 0 by omega)
  have key : ∀ u v : Nat, u ≤ v → v < n → a * u % n = a * v % n → u = v := by
    intro u v huv hv he
    have h0 : (a * v - a * u) % n = 0 := Nat.sub_mod_eq_zero_of_mod_eq he.symm
    have hd : n ∣ a * (v - u) := by rw [Nat.mul_sub]; exact Nat.dvd_of_mod_eq_zero h0
    have hd2 := hc.dvd_of_dvd_mul_left hd
    have h3 := Nat.eq_zero_of_dvd_of_lt hd2 (by omega)
    omega
  have same : a * x % n = a * y % n → x = y := by
    intro he
    rcases Nat.le_total x y with h | h
    · exact key x y h (by omega) he
    · exact (key y x h (by omega) he.symm).symm
  have opp : a * x % n + a * y % n = n → False := by
    intro he
    have h0 : (a * x + a * y) % n = 0 := by rw [Nat.add_mod, he]; simp
    have hd : n ∣ a * (x + y) := by rw [Nat.mul_add]; exact Nat.dvd_of_mod_eq_zero h0
    have hd2 := hc.dvd_of_dvd_mul_left hd
    have := Nat.le_of_dvd (by omega) hd2
    omega
  unfold ab at e
  split at e <;> split at e
  · exact same (by omega)
  · exact (opp (by omega)).elim
  · exact (opp (by omega)).elim
  · exact same e

theorem ab_perm {n a : Nat} (hn : n % 2 = 1) (hc : Nat.Coprime n a) : ((upto (n / 2)).map (ab n a)).Perm (upto (n / 2)) :=
  perm_upto _ _ (fun _ h1 h2 => ab_range hn hc h1 h2) (fun _ _ h1 h2 h3 h4 e => ab_inj hn hc h1 h2 h3 h4 e)

theorem gs_mod (n a : Nat) : gs n (a % n) = gs n a := by
  unfold gs
  refine sm_congr fun k _ => ?_
  unfold neg
  rw [Nat.mod_mul_mod]

theorem neg_sub {n a r : Nat} (hn : n % 2 = 1) (hr : r ≤ n) (hs : a * r % n ≠ 0) : neg n a (n - r) = 1 - neg n a r := by
  have hl := Nat.mod_lt (a * r) (show n > 0 by omega)
  have he : a * (n - r) % n = n - a * r % n := by
    have h1 : (a * (n - r) + a * r) % n = 0 := by
      rw [← Nat.mul_add, Nat.sub_add_cancel hr]; simp
    rw [Nat.add_mod] at h1
    have h2 := Nat.mod_lt (a * (n - r)) (show n > 0 by omega)
    generalize a * (n - r) % n = p at h1 h2
    generalize a * r % n = q at h1 hl hs
    have h3 : n ∣ p + q := Nat.dvd_of_mod_eq_zero h1
    obtain ⟨c, hcn⟩ := h3
    have : c = 1 := by
      rcases Nat.lt_or_ge c 2 with h | h
      · rcases Nat.eq_zero_or_pos c with h0 | h0
        · subst h0; omega
        · omega
      · have := Nat.mul_le_mul_left n h; omega
    subst this; omega
  unfold neg
  rw [he]
  generalize a * r % n = q at *
  split <;> split <;> omega

theorem gs_mul {n a b : Nat} (hn : n % 2 = 1) (ha : Nat.Coprime n a) (hb : Nat.Coprime n b) : gs n (a * b) % 2 = (gs n a + gs n b) % 2 := by
  have h1 : gs n a = sm (upto (n / 2)) (fun k => neg n a (ab n b k)) := by
    unfold gs; rw [← sm_perm (ab_perm hn hb), sm_map]
  rw [h1]
  unfold gs
  rw [← sm_add]
  refine sm_mod2 _ _ _ fun k hk => ?_
  obtain ⟨hk1, hk2⟩ := mem_upto.1 hk
  have hr := rem_ne hb hk1 (by omega)
  have hl := Nat.mod_lt (b * k) (show n > 0 by omega)
  have hab := rem_ne (Nat.Coprime.mul_right ha hb) hk1 (by omega)
  have e : a * (b * k % n) % n = a * b * k % n := by rw [Nat.mul_mod_mod, Nat.mul_assoc]
  have hng : neg n (a * b) k = neg n a (b * k % n) := by unfold neg; rw [e]
  rw [hng]
  unfold ab
  by_cases h : n / 2 < b * k % n
  · rw [if_pos h, neg_sub hn (by omega) (by rw [e]; exact hab)]
    have : neg n b k = 1 := by unfold neg; rw [if_pos h]
    rw [this]
    have : neg n a (b * k % n) ≤ 1 := by unfold neg; split <;> omega
    omega
  · rw [if_neg h]
    have : neg n b k = 0 := by unfold neg; rw [if_neg h]
    rw [this, Nat.add_zero]

theorem gs_one (n : Nat) : gs n 1 = 0 := by
  unfold gs
  have : sm (upto (n / 2)) (neg n 1) = sm (upto (n / 2)) (fun _ => 0) := sm_congr fun k hk => by
    obtain ⟨h1, h2⟩ := mem_upto.1 hk
    unfold neg
    rw [Nat.one_mul, Nat.mod_eq_of_lt (by omega), if_neg (by omega)]
  rw [this, sm_const]; simp

theorem gs_two {n : Nat} (hn : n % 2 = 1) : gs n 2 + n / 2 / 2 = n / 2 := by
  unfold gs
  have h1 : sm (upto (n / 2)) (neg n 2) + sm (upto (n / 2)) (fun k => if k ≤ n / 2 / 2 then 1 else 0) = sm (upto (n / 2)) (fun _ => 1) := by
    rw [← sm_add]
    refine sm_congr fun k hk => ?_
    obtain ⟨h1, h2⟩ := mem_upto.1 hk
    unfold neg
    rw [Nat.mod_eq_of_lt (by omega)]
    split <;> split <;> omega
  rw [sm_le, sm_const, length_upto] at h1
  have : min (n / 2) (n / 2 / 2) = n / 2 / 2 := by omega
  omega

/-- The second law: 2 is a residue just where n is 1 or 7 modulo 8. -/
theorem gs_two_mod {n : Nat} (hn : n % 2 = 1) : gs n 2 % 2 = if n % 8 = 3 ∨ n % 8 = 5 then 1 else 0 := by
  have h := gs_two hn
  split <;> omega

/-- The sum of the quotients has the parity of the sign. -/
theorem floor_gs {n a : Nat} (hn : n % 2 = 1) (ha : a % 2 = 1) (hc : Nat.Coprime n a) : sm (upto (n / 2)) (fun k => a * k / n) % 2 = gs n a % 2 := by
  have hp : sm (upto (n / 2)) (ab n a) = sm (upto (n / 2)) (fun k => k) := by
    have := sm_perm (ab_perm hn hc) (fun k => k)
    rwa [sm_map] at this
  have h1 : sm (upto (n / 2)) (fun k => k) % 2 = sm (upto (n / 2)) (fun k => a * k / n + (ab n a k + neg n a k)) % 2 := by
    refine sm_mod2 _ _ _ fun k hk => ?_
    obtain ⟨hk1, hk2⟩ := mem_upto.1 hk
    have hl := Nat.mod_lt (a * k) (show n > 0 by omega)
    have hd := Nat.div_add_mod (a * k) n
    have e1 : a * k % 2 = k % 2 := by rw [Nat.mul_mod, ha]; simp
    have e2 : n * (a * k / n) % 2 = (a * k / n) % 2 := by rw [Nat.mul_mod, hn]; simp
    generalize n * (a * k / n) = u at *
    generalize a * k / n = v at *
    unfold ab neg
    generalize a * k % n = r at *
    generalize a * k = t at *
    split <;> omega
  rw [sm_add, sm_add, hp] at h1
  unfold gs
  omega

theorem floor_count {n a k : Nat} (hn : n % 2 = 1) (ha : a % 2 = 1) (hk : k ≤ n / 2) (hk1 : 1 ≤ k) :
    a * k / n = sm (upto (a / 2)) (fun j => if n * j ≤ a * k then 1 else 0) := by
  have h1 : sm (upto (a / 2)) (fun j => if n * j ≤ a * k then 1 else 0) = sm (upto (a / 2)) (fun j => if j ≤ a * k / n then 1 else 0) := by
    refine sm_congr fun j _ => ?_
    have : n * j ≤ a * k ↔ j ≤ a * k / n := by rw [Nat.le_div_iff_mul_le (by omega), Nat.mul_comm]
    simp only [this]
  rw [h1, sm_le]
  have hle : a * k / n ≤ a / 2 := by
    have h2 : a * k ≤ a * (n / 2) := Nat.mul_le_mul_left a hk
    have h3 : a * (n / 2) * 2 = a * (n - 1) := by rw [Nat.mul_assoc]; congr 1; omega
    have h4 : a * (n - 1) + a = a * n := by rw [← Nat.mul_succ]; congr 1; omega
    have h5 : a * k / n < a / 2 + 1 := by
      rw [Nat.div_lt_iff_lt_mul (by omega)]
      have h7 : (a / 2 + 1) * n * 2 = (a + 1) * n := by
        rw [Nat.mul_assoc, Nat.mul_comm n 2, ← Nat.mul_assoc]
        have : (a / 2 + 1) * 2 = a + 1 := by omega
        rw [this]
      rw [Nat.succ_mul a n] at h7
      generalize (a / 2 + 1) * n = z1 at *
      generalize a * n = z2 at *
      generalize a * (n - 1) = z3 at *
      generalize a * (n / 2) = z4 at *
      generalize a * k = z5 at *
      omega
    omega
  omega

/-- The law of quadratic reciprocity, for the sign that Gauss's lemma counts. -/
theorem gs_recip {m n : Nat} (hm : m % 2 = 1) (hn : n % 2 = 1) (hc : Nat.Coprime n m) : (gs n m + gs m n) % 2 = (n / 2 * (m / 2)) % 2 := by
  have hc' : Nat.Coprime m n := hc.symm
  have h1 := floor_gs hn hm hc
  have h2 := floor_gs hm hn hc'
  have e1 : sm (upto (n / 2)) (fun k => m * k / n) = sm (upto (n / 2)) (fun k => sm (upto (m / 2)) (fun j => if n * j ≤ m * k then 1 else 0)) :=
    sm_congr fun k hk => floor_count hn hm (mem_upto.1 hk).2 (mem_upto.1 hk).1
  have e2 : sm (upto (m / 2)) (fun j => n * j / m) = sm (upto (m / 2)) (fun j => sm (upto (n / 2)) (fun k => if m * k ≤ n * j then 1 else 0)) :=
    sm_congr fun j hj => floor_count hm hn (mem_upto.1 hj).2 (mem_upto.1 hj).1
  have e3 : sm (upto (n / 2)) (fun k => m * k / n) + sm (upto (m / 2)) (fun j => n * j / m) = n / 2 * (m / 2) := by
    rw [e1, e2, sm_swap (upto (m / 2)), ← sm_add]
    have : sm (upto (n / 2)) (fun k => sm (upto (m / 2)) (fun j => if n * j ≤ m * k then 1 else 0) + sm (upto (m / 2)) (fun j => if m * k ≤ n * j then 1 else 0))
        = sm (upto (n / 2)) (fun _ => m / 2) := by
      refine sm_congr fun k hk => ?_
      obtain ⟨hk1, hk2⟩ := mem_upto.1 hk
      rw [← sm_add]
      have : sm (upto (m / 2)) (fun j => (if n * j ≤ m * k then 1 else 0) + (if m * k ≤ n * j then 1 else 0)) = sm (upto (m / 2)) (fun _ => 1) := by
        refine sm_congr fun j hj => ?_
        obtain ⟨hj1, hj2⟩ := mem_upto.1 hj
        have hne : n * j ≠ m * k := by
          intro e
          have hd : n ∣ m * k := ⟨j, e.symm⟩
          have := Nat.le_of_dvd (by omega) (hc.dvd_of_dvd_mul_left hd)
          omega
        split <;> split <;> omega
      rw [this, sm_const, length_upto]; omega
    rw [this, sm_const, length_upto]
  omega

end Sg

/-! Gauss's lemma, and the two primes. -/
namespace Sg

/-- No number from lo on, below lo + 2 ^ k, divides n. -/
def noDiv (n : Nat) : Nat → Nat → Bool
  | 0, lo => n % lo != 0
  | k + 1, lo => noDiv n k lo && noDiv n k (lo + 2 ^ k)

theorem noDiv_spec (n : Nat) : ∀ (k lo : Nat), noDiv n k lo = true → ∀ d, lo ≤ d → d < lo + 2 ^ k → n % d ≠ 0
  | 0, lo, h, d, h1, h2 => by
    have : d = lo := by simp at h2; omega
    subst this
    simpa [noDiv] using h
  | k + 1, lo, h, d, h1, h2 => by
    simp only [noDiv, Bool.and_eq_true] at h
    have hp : 2 ^ (k + 1) = 2 ^ k + 2 ^ k := by rw [Nat.pow_succ]; omega
    rcases Nat.lt_or_ge d (lo + 2 ^ k) with hd | hd
    · exact noDiv_spec n k lo h.1 d h1 hd
    · exact noDiv_spec n k _ h.2 d hd (by omega)

/-- A number has no divisor but 1 and itself. -/
def Prime' (p : Nat) : Prop := 2 ≤ p ∧ ∀ k, 1 ≤ k → k < p → Nat.Coprime p k

theorem prime_of {p m : Nat} (h2 : 2 ≤ p) (hm : p < (m + 1) * (m + 1)) (h : ∀ d, 2 ≤ d → d ≤ m → p % d ≠ 0) : Prime' p := by
  refine ⟨h2, fun k h1 hk => ?_⟩
  -- a common divisor g of p and k, g > 1, would give a divisor of p up to m
  rcases Nat.lt_or_ge 1 (Nat.gcd p k) with hg | hg
  · exfalso
    have hgp : Nat.gcd p k ∣ p := Nat.gcd_dvd_left p k
    have hgk : Nat.gcd p k ≤ k := Nat.le_of_dvd (by omega) (Nat.gcd_dvd_right p k)
    generalize Nat.gcd p k = g at *
    obtain ⟨c, hc⟩ := hgp
    rcases Nat.lt_or_ge m g with h3 | h3
    · have hcm : c ≤ m := by
        rcases Nat.lt_or_ge m c with h4 | h4
        · have : (m + 1) * (m + 1) ≤ g * c := Nat.mul_le_mul h3 h4
          omega
        · exact h4
      have hc2 : 2 ≤ c := by
        rcases Nat.lt_or_ge c 2 with h4 | h4
        · have : c = 0 ∨ c = 1 := by omega
          rcases this with h5 | h5
          · subst h5; omega
          · subst h5; omega
        · exact h4
      exact h c hc2 hcm (by rw [hc]; simp)
    · exact h g hg h3 (by rw [hc]; simp)
  · have : Nat.gcd p k ≠ 0 := by
      intro e; have := Nat.eq_zero_of_gcd_eq_zero_left e; omega
    show Nat.gcd p k = 1
    omega

theorem pr_le_cop {p : Nat} (hp : Prime' p) : ∀ (l : List Nat), (∀ k, k ∈ l → 1 ≤ k ∧ k < p) → Nat.Coprime p (pr l (fun k => k))
  | [], _ => by rw [pr_nil]; exact Nat.coprime_one_right p
  | k :: l, h => by
    rw [pr_cons]
    exact Nat.Coprime.mul_right (hp.2 k (h k (by simp)).1 (h k (by simp)).2) (pr_le_cop hp l fun x hx => h x (by simp [hx]))

theorem pr_pow (l : List Nat) (a : Nat) : pr l (fun k => a * k) = a ^ l.length * pr l (fun k => k) := by
  induction l with
  | nil => simp [pr_nil]
  | cons k l ih => simp only [pr_cons, ih, List.length_cons, Nat.pow_succ]; ac_rfl

/-- a * k is the distance, times the sign. -/
theorem mul_sign (n a k : Nat) (hn : 1 ≤ n) : a * k % n = (n - 1) ^ neg n a k * ab n a k % n := by
  have hl := Nat.mod_lt (a * k) (show n > 0 by omega)
  unfold neg ab
  split
  · rename_i h
    rw [Nat.pow_one]
    generalize a * k % n = r at *
    have e : (n - 1) * (n - r) = n * (n - r - 1) + r := by
      have h1 : (n - 1) * (n - r) + (n - r) = n * (n - r) := by
        rw [← Nat.succ_mul]; congr 1; omega
      have h2 : n * (n - r - 1) + n = n * (n - r) := by
        rw [← Nat.mul_succ]; congr 1; omega
      omega
    rw [e, Nat.mul_add_mod, Nat.mod_eq_of_lt hl]
  · simp

theorem pr_sign (n a : Nat) (hn : 1 ≤ n) : ∀ l : List Nat, pr l (fun k => a * k) % n = (n - 1) ^ sm l (neg n a) * pr l (ab n a) % n
  | [] => by simp [pr_nil, sm_nil]
  | k :: l => by
    simp only [pr_cons, sm_cons]
    rw [Nat.mul_mod, pr_sign n a hn l, mul_sign n a k hn, ← Nat.mul_mod, Nat.pow_add]
    congr 1
    ac_rfl

theorem pow_neg_one (n : Nat) (hn : 1 < n) : ∀ e, (n - 1) ^ e % n = if e % 2 = 0 then 1 else n - 1
  | 0 => by simp [Nat.mod_eq_of_lt hn]
  | e + 1 => by
    rw [Nat.pow_succ, Nat.mul_mod, pow_neg_one n hn e]
    have h1 : (n - 1) % n = n - 1 := Nat.mod_eq_of_lt (by omega)
    rw [h1]
    split
    · rw [if_neg (by omega), Nat.one_mul, h1]
    · rw [if_pos (by omega)]
      have e : (n - 1) * (n - 1) = n * (n - 2) + 1 := by
        obtain ⟨m, rfl⟩ : ∃ m, n = m + 2 := ⟨n - 2, by omega⟩
        have h1 : m + 2 - 1 = m + 1 := by omega
        have h2 : m + 2 - 2 = m := by omega
        rw [h1, h2, Nat.add_mul, Nat.mul_add, Nat.mul_add, Nat.add_mul]; omega
      rw [e, Nat.mul_add_mod, Nat.mod_eq_of_lt (by omega)]

theorem cancel {p u v c : Nat} (hc : Nat.Coprime p c) (h : u * c % p = v * c % p) : u % p = v % p := by
  have key : ∀ u v : Nat, u ≤ v → u * c % p = v * c % p → u % p = v % p := by
    intro u v huv he
    have h0 : (v * c - u * c) % p = 0 := Nat.sub_mod_eq_zero_of_mod_eq he.symm
    have hd : p ∣ (v - u) * c := by rw [Nat.sub_mul]; exact Nat.dvd_of_mod_eq_zero h0
    have hd2 := hc.dvd_of_dvd_mul_right hd
    obtain ⟨d, hd⟩ := hd2
    have : v = u + p * d := by omega
    rw [this, Nat.add_mul_mod_self_left]
  rcases Nat.le_total u v with hu | hu
  · exact key u v hu h
  · exact (key v u hu h.symm).symm

/-- Gauss's lemma. -/
theorem gauss {p a : Nat} (hp : Prime' p) (h2 : p % 2 = 1) (ha : Nat.Coprime p a) : a ^ (p / 2) % p = if gs p a % 2 = 0 then 1 else p - 1 := by
  have h1 := pr_sign p a (by have := hp.1; omega) (upto (p / 2))
  rw [pr_pow, length_upto] at h1
  have h3 : pr (upto (p / 2)) (ab p a) = pr (upto (p / 2)) (fun k => k) := by
    have := pr_perm (ab_perm h2 ha) (fun k => k)
    rwa [pr_map] at this
  rw [h3] at h1
  have h4 := cancel (pr_le_cop hp _ fun k hk => by have := mem_upto.1 hk; have := hp.1; omega) h1
  rw [h4]
  exact pow_neg_one p (by have := hp.1; omega) _

theorem pow_mod_two {p a : Nat} (hp : Prime' p) (h2 : p % 2 = 1) (ha : Nat.Coprime p a) : a ^ (p - 1) % p = 1 := by
  have h := gauss hp h2 ha
  have e : p - 1 = p / 2 + p / 2 := by have := hp.1; omega
  have h1 := hp.1
  rw [e, Nat.pow_add, Nat.mul_mod, h]
  have h3 := pow_neg_one p (by omega) 2
  split
  · rw [Nat.one_mul, Nat.mod_eq_of_lt (by omega)]
  · rw [Nat.pow_two] at h3
    rw [h3]; rfl

/-- The two primes of the group. -/
def P : Nat := 2147483579
def Q : Nat := 1073741789

theorem prime_P : Prime' P := by
  refine prime_of (m := 46341) (by decide) (by decide) fun d h1 h2 => ?_
  exact noDiv_spec P 16 2 (by decide +kernel) d h1 (by omega)

theorem prime_Q : Prime' Q := by
  refine prime_of (m := 32768) (by decide) (by decide) fun d h1 h2 => ?_
  exact noDiv_spec Q 15 2 (by decide +kernel) d h1 (by omega)

end Sg

/-! The loop that tells a square by the law of quadratic reciprocity. -/
namespace Sg

theorem half_step {n x : Nat} (hn : n % 2 = 1) (hx : x % 2 = 0) (hc : Nat.Coprime n x) :
    Nat.Coprime n (x / 2) ∧ gs n x % 2 = (gs n (x / 2) + if n % 8 = 3 ∨ n % 8 = 5 then 1 else 0) % 2 := by
  have e : x = 2 * (x / 2) := by omega
  have h2 : Nat.Coprime n 2 := by
    have : Nat.gcd n 2 = 1 := by rw [Nat.gcd_comm, Nat.gcd_rec, hn]; rfl
    exact this
  have hc2 : Nat.Coprime n (x / 2) := by rw [e] at hc; exact hc.coprime_mul_left_right
  refine ⟨hc2, ?_⟩
  have h := gs_mul hn h2 hc2
  rw [← e] at h
  have := gs_two_mod hn
  omega

theorem swap_step {n x : Nat} (hn : n % 2 = 1) (hx : x % 2 = 1) (hc : Nat.Coprime n x) :
    Nat.Coprime x (n % x) ∧ gs n x % 2 = (gs x (n % x) + if x % 4 = 3 ∧ n % 4 = 3 then 1 else 0) % 2 := by
  have h := gs_recip hx hn hc
  refine ⟨?_, ?_⟩
  · have h1 := hc.symm
    unfold Nat.Coprime at h1 ⊢
    rw [Nat.gcd_rec] at h1
    rw [Nat.gcd_comm]; exact h1
  · rw [gs_mod]
    have e : n / 2 * (x / 2) % 2 = if x % 4 = 3 ∧ n % 4 = 3 then 1 else 0 := by
      rw [Nat.mul_mod]
      have h1 : n / 2 % 2 = 0 ∨ n / 2 % 2 = 1 := by omega
      have h2 : x / 2 % 2 = 0 ∨ x / 2 % 2 = 1 := by omega
      rcases h1 with h1 | h1 <;> rcases h2 with h2 | h2 <;> rw [h1, h2] <;> split <;> omega
    omega

theorem mod_pos {n x : Nat} (hx : 1 < x) (hc : Nat.Coprime n x) : 1 ≤ n % x := by
  rcases Nat.eq_zero_or_pos (n % x) with h | h
  · exfalso
    have h1 : Nat.gcd n x = x := by
      rw [Nat.gcd_comm, Nat.gcd_rec, h, Nat.gcd_zero_left]
    have : Nat.gcd n x = 1 := hc
    omega
  · exact h

/-- The power of a number modulo m: by choice, so that nothing tries to reckon it. -/
noncomputable def mp (m a e : Nat) : Nat := Classical.choose (⟨a ^ e % m, rfl⟩ : ∃ r, r = a ^ e % m)

theorem mp_def (m a e : Nat) : mp m a e = a ^ e % m := Classical.choose_spec (⟨a ^ e % m, rfl⟩ : ∃ r, r = a ^ e % m)

/-- An element of the group: a square modulo P. -/
noncomputable def vld (x : Int) : Bool := decide (1 ≤ x) && (decide (x < 2147483579) && (mp P x.toNat Q == 1))

theorem vld_of_gs {x : Nat} (h1 : 1 ≤ x) (h2 : x < P) : vld x = decide (gs P x % 2 = 0) := by
  have hc := prime_P.2 x h1 h2
  have h := gauss prime_P (by decide) hc
  have e : P / 2 = Q := by decide
  rw [e] at h
  unfold vld
  have h3 : decide ((1 : Int) ≤ x) = true := by simp; omega
  have h4 : decide ((x : Int) < 2147483579) = true := by have : P = 2147483579 := rfl; simp; omega
  rw [h3, h4, Bool.true_and, Bool.true_and, mp_def, Int.toNat_natCast, h]
  by_cases hg : gs P x % 2 = 0
  · rw [if_pos hg, decide_eq_true hg]; rfl
  · rw [if_neg hg, decide_eq_false hg]; decide

/-- The fast way to a power. -/
def mpf (m : Nat) : Nat → Nat → Nat → Nat → Nat
  | 0, _, _, c => c
  | k + 1, a, e, c => mpf m k (a * a % m) (e / 2) (if e % 2 = 1 then c * a % m else c)

theorem mpf_eq (m : Nat) : ∀ (k a e c : Nat), e < 2 ^ k → c % m = c → mpf m k a e c = c * a ^ e % m
  | 0, a, e, c, h, hc => by
    have : e = 0 := by simp at h; omega
    subst this; simp [mpf, hc]
  | k + 1, a, e, c, h, hc => by
    have h2 : e / 2 < 2 ^ k := by rw [Nat.pow_succ] at h; omega
    rw [mpf, mpf_eq m k _ _ _ h2 (by split <;> simp [hc])]
    have e1 : a ^ e = (a * a) ^ (e / 2) * a ^ (e % 2) := by
      rw [← Nat.pow_two, ← Nat.pow_mul, ← Nat.pow_add]; congr 1; omega
    have e2 : (a * a % m) ^ (e / 2) % m = (a * a) ^ (e / 2) % m := (Nat.pow_mod _ _ _).symm
    rw [Nat.mul_mod, e2, ← Nat.mul_mod, e1]
    have : e % 2 = 0 ∨ e % 2 = 1 := by omega
    rcases this with h | h
    · rw [h, if_neg (by omega)]; simp
    · rw [h, if_pos rfl, Nat.pow_one, Nat.mul_mod, Nat.mod_mod, ← Nat.mul_mod]
      congr 1; ac_rfl

end Sg
