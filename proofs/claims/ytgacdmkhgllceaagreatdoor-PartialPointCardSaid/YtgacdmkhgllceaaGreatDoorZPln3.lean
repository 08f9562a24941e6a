/- The plain law of layer 42: what Make answers to honest keepers, and that all parts together are a signature. -/
import Derived.Test.YtgacdmkhgllceaaGreatDoorZPln1
import Derived.Test.YtgacdmkhgllceaaGreatDoorZWork4
namespace Go.Proofs.YtgacdmkhgllceaaGreatDoor

/-- What the shares of a keeper come to; none if one is wrong. -/
noncomputable def mkSum (rows : List (List Int)) (owners commits y : List Int) : List Nat → List (Int × Int) → Int → Option Int
  | [], [], sum => some sum
  | [], _ :: _, _ => none
  | _ :: _, [], _ => none
  | j :: js, x :: ss, sum => if x.1 = (j : Int) ∧ fitB rows owners commits x.1 x.2 = true then mkSum rows owners commits y js ss (add sum (mul (y.getD j 0) x.2)) else none

theorem commits_vld (s : List Int) : ∀ x ∈ commitsOf s, Sg.vld x = true := by
  intro x hx
  unfold commitsOf at hx
  obtain ⟨a, _, rfl⟩ := List.mem_map.1 hx
  exact ex_vld a
theorem deal_ok {rows : List (List Int)} {owners s : List Int} (h0 : progErr rows owners = 0) (hs : s.length = cols rows) : dealErr rows owners (commitsOf s) = 0 := by
  unfold dealErr
  rw [if_neg (by rw [h0]; decide), if_neg (by simp [commitsOf, hs])]
  have : (commitsOf s).any oddP = false := List.any_eq_false.2 fun x hx => by simp [oddP, commits_vld s x hx]
  rw [this]; rfl
theorem fit_own {rows : List (List Int)} {owners s : List Int} (h0 : progErr rows owners = 0) (hs : s.length = cols rows) {j : Nat} (hj : j < rows.length) : fitB rows owners (commitsOf s) (j : Int) (dot (rows.getD j []) s) = true := by
  have hb := dot_bd (rows.getD j []) s
  have h1 : fitErr rows owners (commitsOf s) (j : Int) (dot (rows.getD j []) s) = 0 := by
    unfold fitErr
    rw [if_neg (by rw [deal_ok h0 hs]; decide)]
    have : shareR rows.length (j : Int) (dot (rows.getD j []) s) = true := by
      unfold shareR numsQ
      generalize dot (rows.getD j []) s = v at *
      simp [oddQ]; omega
    rw [if_pos this]
  unfold fitB
  rw [if_neg (by rw [h1]; decide), Int.toNat_natCast, pubP_ex]
  simp [ex]
/-- A keeper's shares as they were dealt. -/
def ownSh (rows : List (List Int)) (owners s : List Int) (k : Int) : List (Int × Int) := (ownIdx owners rows.length k).map fun i : Nat => ((i : Int), dot (rows.getD i []) s)
theorem ownIdx_lt {owners : List Int} {n : Nat} {k : Int} {i : Nat} (h : i ∈ ownIdx owners n k) : i < n := by
  unfold ownIdx at h
  exact List.mem_range.1 (List.mem_filter.1 h).1
theorem mkSum_own {rows : List (List Int)} {owners s y : List Int} (h0 : progErr rows owners = 0) (hs : s.length = cols rows) : ∀ (idx : List Nat) (acc : Int), (∀ i ∈ idx, i < rows.length) →
    ∃ z, mkSum rows owners (commitsOf s) y idx (idx.map fun i : Nat => ((i : Int), dot (rows.getD i []) s)) acc = some z ∧ md z = md (acc + (idx.map fun i => y.getD i 0 * dot (rows.getD i []) s).sum)
  | [], acc, _ => ⟨acc, rfl, by simp⟩
  | j :: js, acc, h => by
    obtain ⟨z, h1, h2⟩ := mkSum_own h0 hs (y := y) js (add acc (mul (y.getD j 0) (dot (rows.getD j []) s))) fun i hi => h i (by simp [hi])
    refine ⟨z, ?_, ?_⟩
    · rw [List.map_cons]
      unfold mkSum
      rw [if_pos ⟨rfl, fit_own h0 hs (h j (by simp))⟩]
      exact h1
    · rw [h2, List.map_cons, List.sum_cons]
      unfold add mul
      generalize (js.map fun i => y.getD i 0 * dot (rows.getD i []) s).sum = t
      generalize y.getD j 0 * dot (rows.getD j []) s = u
      unfold md; omega

/-- A part. -/
def partOf (d f b ch sum : Int) : Int := add (add d (mul f b)) (mul ch sum)
theorem part_md (d f b ch sum u : Int) (h : md sum = md u) : md (partOf d f b ch sum) = md (d + f * b + ch * u) := by
  have h2 := md_eq_mul ch h
  unfold partOf add mul
  generalize ch * sum = x at *
  generalize ch * u = y at *
  generalize f * b = z
  unfold md at *; omega
theorem part_bd (d f b ch sum : Int) : 0 ≤ partOf d f b ch sum ∧ partOf d f b ch sum < 1073741789 := md_bd _

/-- A keeper who has drawn nonces: the name, the number, and both logarithms. -/
structure Kp where
  kp : Int
  no : Int
  d : Int
  f : Int
noncomputable def Kp.pr (x : Kp) : Pr := ⟨x.kp, x.no, ex x.d, ex x.f⟩
/-- The logarithm of what all give to the point. -/
noncomputable def logN (c0 : Int) (txt : List UInt8) (all : Val) (l : List Kp) : Int := (l.map fun x => x.d + x.f * (bindN c0 txt all x.kp : Int)).sum
theorem nonce_ex (c0 : Int) (txt : List UInt8) (all : Val) (x : Kp) : nonceN c0 txt all x.pr = ex (x.d + x.f * (bindN c0 txt all x.kp : Int)) := by
  show mulP (ex x.d) (powP (ex x.f) _) = _
  rw [ex_pow, ex_mul]; rfl
theorem point_ex (c0 : Int) (txt : List UInt8) (all : Val) (l : List Kp) : prodP (nonceN c0 txt all) (l.map Kp.pr) = ex (logN c0 txt all l) := by
  unfold prodP logN
  rw [List.foldl_map, ← ex_zero, prodP_ex (fun x => nonceN c0 txt all (Kp.pr x)) _ l 0 (fun x _ => nonce_ex c0 txt all x), Int.zero_add]

/-- The challenge. -/
noncomputable def chN (c0 : Int) (txt : List UInt8) (ps : List Pr) : Int := hashN signTag (encVal (.list [.int (prodP (nonceN c0 txt (allV ps)) ps), .int c0, .text txt]))
theorem hashN_bd (t x : List UInt8) : 0 ≤ (hashN t x : Int) ∧ (hashN t x : Int) < 1073741789 := by
  unfold hashN; omega
theorem chN_bd (c0 : Int) (txt : List UInt8) (ps : List Pr) : 0 ≤ chN c0 txt ps ∧ chN c0 txt ps < 1073741789 := hashN_bd _ _

/-- WHAT IS A SIGNATURE: the logarithm of the point and the challenge times the secret. -/
theorem ver_ok {c : Int} {txt : List UInt8} {l : List Kp} {z : Int} (hz : 0 ≤ z ∧ z < 1073741789)
    (h : md z = md (logN (ex c) txt (allV (l.map Kp.pr)) l + chN (ex c) txt (l.map Kp.pr) * c)) : verB (ex c) txt (chN (ex c) txt (l.map Kp.pr)) z = true := by
  have hc := chN_bd (ex c) txt (l.map Kp.pr)
  have e : (sigN (ex c) txt (chN (ex c) txt (l.map Kp.pr)) z : Int) = chN (ex c) txt (l.map Kp.pr) := by
    generalize hch : chN (ex c) txt (l.map Kp.pr) = ch at *
    have hch2 := hch
    unfold chN at hch2
    unfold sigN
    have e2 : mulP (powP 4 z) (powP (ex c) (-ch)) = prodP (nonceN (ex c) txt (allV (l.map Kp.pr))) (l.map Kp.pr) := by
      rw [point_ex]
      show mulP (ex z) _ = _
      rw [ex_pow, ex_mul]
      refine ex_congr ?_
      rw [Int.mul_neg, Int.mul_comm c ch]
      generalize ch * c = t at *
      unfold md at *; omega
    rw [e2]
    exact hch2
  unfold verB
  rw [ex_vld, e]
  simp [oddQ]; omega

/-- A keeper's part, when all is as it was dealt. -/
noncomputable def zOf (_rows : List (List Int)) (_owners _s : List Int) (txt : List UInt8) (l : List Kp) (c0 : Int) (x : Kp) (sum : Int) : Int := partOf x.d x.f (bindN c0 txt (allV (l.map Kp.pr)) x.kp : Int) (chN c0 txt (l.map Kp.pr)) sum

theorem sum_mul (c : Int) {α : Type} (f : α → Int) : ∀ l : List α, (l.map fun x => c * f x).sum = c * (l.map f).sum
  | [] => by simp
  | x :: l => by rw [List.map_cons, List.sum_cons, sum_mul c f l, List.map_cons, List.sum_cons, Int.mul_add]
theorem sum_add2 {α : Type} (f g : α → Int) : ∀ l : List α, (l.map fun x => f x + g x).sum = (l.map f).sum + (l.map g).sum
  | [] => by simp
  | x :: l => by rw [List.map_cons, List.sum_cons, sum_add2 f g l, List.map_cons, List.sum_cons, List.map_cons, List.sum_cons]; omega
theorem sum_md {α : Type} (f g : α → Int) : ∀ l : List α, (∀ x ∈ l, md (f x) = md (g x)) → md ((l.map f).sum) = md ((l.map g).sum)
  | [], _ => rfl
  | x :: l, h => by rw [List.map_cons, List.sum_cons, List.map_cons, List.sum_cons]; exact md_eq_add (h x (by simp)) (sum_md f g l fun y hy => h y (by simp [hy]))

/-- ALL PARTS TOGETHER. -/
theorem parts_md {rows : List (List Int)} {owners s : List Int} (h0 : progErr rows owners = 0) (hs : s.length = cols rows) (l : List Kp) (hn : (l.map Kp.kp).Nodup) (ha : accB rows owners (l.map Kp.kp) = true) (bs : Kp → Int) (ch : Int) (z : Kp → Int)
    (hz : ∀ x ∈ l, md (z x) = md (x.d + x.f * bs x + ch * ksum rows owners (l.map Kp.kp) s x.kp)) :
    md ((l.map z).sum) = md ((l.map fun x => x.d + x.f * bs x).sum + ch * s.getD 0 0) := by
  rw [sum_md z _ l hz, sum_add2, sum_mul]
  refine md_eq_add rfl (md_eq_mul ch ?_)
  have := ksum_all h0 ha hn s hs
  rw [List.map_map] at this
  exact this

end Go.Proofs.YtgacdmkhgllceaaGreatDoor
