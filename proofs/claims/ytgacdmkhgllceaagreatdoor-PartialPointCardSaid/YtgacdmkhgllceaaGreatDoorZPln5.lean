/- The plain law of honest keepers: what they make of what was dealt. -/
import Derived.Test.YtgacdmkhgllceaaGreatDoorZLawF
import Derived.Test.YtgacdmkhgllceaaGreatDoorZPln1
namespace Go.Proofs.YtgacdmkhgllceaaGreatDoor

theorem dealt_range (rows : List (List Int)) (s : List Int) : dealt rows s = (List.range rows.length).map fun i : Nat => ((i : Int), dot (rows.getD i []) s) := by
  apply List.ext_getElem?
  intro k
  by_cases h : k < rows.length
  · rw [dealt_at rows s k h, List.getElem?_map, List.getElem?_range h]
    simp [h]
  · rw [List.getElem?_eq_none (by rw [dealt_len]; omega), List.getElem?_eq_none (by simp; omega)]
theorem ofK_dealt (rows : List (List Int)) (owners s : List Int) (k : Int) (hl : rows.length = owners.length) : ofK owners k (dealt rows s) = (ownIdx owners owners.length k).map fun i : Nat => ((i : Int), dot (rows.getD i []) s) := by
  rw [dealt_range]
  unfold ofK ownIdx
  rw [List.filter_map, hl]
  congr 1
  refine List.filter_congr fun i _ => ?_
  simp only [Function.comp_apply, Int.toNat_natCast]
  rw [Bool.eq_iff_iff, beq_iff_eq, beq_iff_eq]
  exact eq_comm

/-- All that is known of honest keepers. -/
structure Honest (rows : List (List Int)) (owners s : List Int) (L : List Kp) (txt : List UInt8) : Prop where
  prog : progErr rows owners = 0
  len : s.length = cols rows
  acc : accB rows owners (L.map Kp.kp) = true
  who : whoOk (L.map Kp.kp) (-1) = true
  pos : 0 < L.length
  few : L.length ≤ 64
  nos : ∀ x ∈ L, 0 ≤ x.no ∧ x.no < 4096
  non : ∀ x ∈ L, (0 ≤ x.d ∧ x.d < 1073741789) ∧ (0 ≤ x.f ∧ x.f < 1073741789)
  sec : ∀ x ∈ s, 0 ≤ x ∧ x < 1073741789
  txl : txt.length ≤ 300
namespace Honest
variable {rows : List (List Int)} {owners s : List Int} {L : List Kp} {txt : List UInt8}

theorem rl (h : Honest rows owners s L txt) : rows.length = owners.length := (progErr_zero h.prog).2.2.1
theorem kps (_h : Honest rows owners s L txt) : (L.map Kp.pr).map Pr.kp = L.map Kp.kp := by rw [List.map_map]; rfl
theorem prs (h : Honest rows owners s L txt) : prsOk (L.map Kp.pr) (-1) = true := by
  have : ∀ (l : List Kp) (last : Int), -1 ≤ last → (∀ x ∈ l, 0 ≤ x.no ∧ x.no < 4096) → whoOk (l.map Kp.kp) last = true → prsOk (l.map Kp.pr) last = true := by
    intro l
    induction l with
    | nil => intros; rfl
    | cons x l ih =>
      intro last hl hn hw
      simp only [List.map_cons, whoOk, Bool.and_eq_true, decide_eq_true_eq] at hw
      simp only [List.map_cons, prsOk, Bool.and_eq_true]
      obtain ⟨h1, h2, h3⟩ := hw
      have hx := hn x (by simp)
      have hp : 0 ≤ x.kp ∧ x.kp ≤ 63 := by unfold isP within at h1; simpa using h1
      refine ⟨?_, ih x.kp (by omega) (fun y hy => hn y (by simp [hy])) h3⟩
      unfold prOk oddP
      have e1 : Sg.vld x.pr.d = true := ex_vld x.d
      have e2 : Sg.vld x.pr.e = true := ex_vld x.f
      have e3 : x.pr.kp = x.kp := rfl
      have e4 : x.pr.no = x.no := rfl
      rw [e1, e2, e3, e4]
      simp
      omega
  exact this L (-1) (Int.le_refl _) h.nos h.who
theorem beg (h : Honest rows owners s L txt) : begE 0 rows owners (commitsOf s) txt.length (L.map Kp.pr) = 0 := by
  have h1 : earlyE 0 rows owners (commitsOf s) txt.length (L.map Kp.pr).length = 0 := by
    unfold earlyE
    have hk : keyR 0 rows (commitsOf s) = true := by
      unfold keyR
      have h2 : (commitsOf s).any oddP = false := List.any_eq_false.2 fun x hx => by simp [oddP, commits_vld s x hx]
      have h3 : (commitsOf s).length = cols rows := by unfold commitsOf; rw [List.length_map]; exact h.len
      rw [h2, h3]; simp
    have := h.few
    have := h.txl
    rw [if_neg (by rw [h.prog]; decide), if_neg (by rw [hk]; decide), if_neg (by omega), if_neg (by rw [List.length_map]; omega)]
  have h2 : goodB rows owners (L.map Kp.pr) = true := by
    unfold goodB
    rw [h.prs, h.kps, h.acc, List.length_map]
    have := h.pos
    simp; omega
  unfold begE
  rw [if_neg (by rw [h1]; decide), if_pos h2]
/-- The key of the secret. -/
theorem head (h : Honest rows owners s L txt) : (commitsOf s).headD 0 = ex (s.getD 0 0) := by
  have hl := h.len
  have := (cols_pos h.prog).1
  cases s with
  | nil => simp at hl; omega
  | cons a t => rfl
theorem inc (h : Honest rows owners s L txt) : Incr (L.map Kp.kp) := (whoOk_incr _ _ h.who).1
theorem idx_kp (h : Honest rows owners s L txt) (i : Nat) (hi : i < L.length) : idx (isKp L[i].kp) (L.map Kp.pr) = i := by
  refine idx_some (by rw [List.length_map]; exact hi) ?_ ?_
  · rw [List.getElem_map]; show (L[i].kp == L[i].kp) = true; simp
  · intro x hx
    obtain ⟨j, hj, rfl⟩ := List.getElem_of_mem hx
    rw [List.length_take, List.length_map] at hj
    rw [List.getElem_take, List.getElem_map]
    show (L[j].kp == L[i].kp) = false
    have hlt := h.inc j i (by omega) (by rw [List.length_map]; exact hi)
    rw [List.getElem_map, List.getElem_map] at hlt
    rw [beq_eq_false_iff_ne]; omega
/-- What a keeper makes. -/
theorem make (h : Honest rows owners s L txt) (x : Kp) (hx : x ∈ L) : ∃ z, makeR 0 rows owners (commitsOf s) txt (L.map Kp.pr) x.kp (ofK owners x.kp (dealt rows s)) x.d x.f = (z, 0) ∧ (0 ≤ z ∧ z < 1073741789) ∧
    md z = md (x.d + x.f * (bindN (ex (s.getD 0 0)) txt (allV (L.map Kp.pr)) x.kp : Int) + chN (ex (s.getD 0 0)) txt (L.map Kp.pr) * ksum rows owners (L.map Kp.kp) s x.kp) := by
  obtain ⟨i, hi, rfl⟩ := List.getElem_of_mem hx
  have hn := h.non _ hx
  have hix := h.idx_kp i hi
  have hod : [L[i].d, L[i].f].any oddQ = false := by simp [oddQ]; omega
  obtain ⟨sm, hsm, hmd⟩ := mkSum_own (y := accY rows owners (L.map Kp.kp)) h.prog h.len (ownIdx owners owners.length L[i].kp) 0 (fun j hj => by rw [h.rl]; exact ownIdx_lt hj)
  have hmk : makeMain rows owners (commitsOf s) txt (L.map Kp.pr) (ofK owners L[i].kp (dealt rows s)) L[i].d L[i].f L[i].pr = (partOf L[i].d L[i].f (bindN (ex (s.getD 0 0)) txt (allV (L.map Kp.pr)) L[i].kp : Int) (chN (ex (s.getD 0 0)) txt (L.map Kp.pr)) sm, 0) := by
    unfold makeMain
    rw [ofK_dealt rows owners s _ h.rl, h.kps]
    show (match mkSum rows owners (commitsOf s) (accY rows owners (L.map Kp.kp)) (ownIdx owners owners.length L[i].kp) _ 0 with | none => _ | some sum => _) = _
    rw [hsm]
    dsimp only
    rw [if_pos ⟨rfl, rfl⟩, h.head]
    rfl
  refine ⟨_, ?_, part_bd _ _ _ _ sm, part_md _ _ _ _ _ _ ?_⟩
  · unfold makeR
    rw [if_neg (by rw [h.beg]; decide), if_neg (by rw [hix, hod]; simp), hix, Int.toNat_natCast]
    have : (L.map Kp.pr).getD i ⟨0, 0, 0, 0⟩ = L[i].pr := by simp [hi]
    rw [this]
    exact hmk
  · rw [hmd, Int.zero_add]
    unfold ksum wt
    rw [h.rl]
/-- The part of a keeper. -/
noncomputable def z (_h : Honest rows owners s L txt) (x : Kp) : Int := (makeR 0 rows owners (commitsOf s) txt (L.map Kp.pr) x.kp (ofK owners x.kp (dealt rows s)) x.d x.f).1
theorem z_eq (h : Honest rows owners s L txt) (x : Kp) (hx : x ∈ L) : makeR 0 rows owners (commitsOf s) txt (L.map Kp.pr) x.kp (ofK owners x.kp (dealt rows s)) x.d x.f = (h.z x, 0) := by
  obtain ⟨z, h1, _⟩ := h.make x hx
  unfold Honest.z; rw [h1]
theorem z_bd (h : Honest rows owners s L txt) (x : Kp) (hx : x ∈ L) : 0 ≤ h.z x ∧ h.z x < 1073741789 := by
  obtain ⟨z, h1, h2, _⟩ := h.make x hx
  unfold Honest.z; rw [h1]; exact h2
theorem z_md (h : Honest rows owners s L txt) (x : Kp) (hx : x ∈ L) : md (h.z x) = md (x.d + x.f * (bindN (ex (s.getD 0 0)) txt (allV (L.map Kp.pr)) x.kp : Int) + chN (ex (s.getD 0 0)) txt (L.map Kp.pr) * ksum rows owners (L.map Kp.kp) s x.kp) := by
  obtain ⟨z, h1, _, h3⟩ := h.make x hx
  unfold Honest.z; rw [h1]; exact h3
/-- What Fits wants of a keeper. -/
theorem want (h : Honest rows owners s L txt) (x : Kp) (hx : x ∈ L) : wantP rows owners (commitsOf s) txt (L.map Kp.pr) x.pr = ex (h.z x) := by
  have hr := h.rl
  have hy : ∀ j ∈ ownIdx owners owners.length x.kp, pubW rows owners (commitsOf s) (accY rows owners (L.map Kp.kp)) (chN (ex (s.getD 0 0)) txt (L.map Kp.pr)) (j : Int) = ex (dot (rows.getD j []) s * mul ((accY rows owners (L.map Kp.kp)).getD j 0) (chN (ex (s.getD 0 0)) txt (L.map Kp.pr))) := by
    intro j hj
    have hjl : j < rows.length := by rw [hr]; exact ownIdx_lt hj
    unfold pubW
    rw [(pubVal_ok (deal_ok h.prog h.len) j hjl).2, pubP_ex, ex_pow, Int.toNat_natCast]
    simp [hjl]
  unfold wantP
  rw [h.head, h.kps, nonce_ex]
  show mulP _ (prodP (fun j : Nat => pubW rows owners (commitsOf s) (accY rows owners (L.map Kp.kp)) (chN (ex (s.getD 0 0)) txt (L.map Kp.pr)) (j : Int)) (ownIdx owners owners.length x.kp)) = _
  rw [prodP_ex1 hy, ex_mul]
  refine ex_congr ?_
  rw [h.z_md x hx]
  refine md_eq_add rfl ?_
  unfold ksum wt
  rw [hr, ← sum_mul]
  refine sum_md _ _ _ fun j _ => ?_
  generalize chN (ex (s.getD 0 0)) txt (L.map Kp.pr) = ch
  unfold mul
  rw [md_mul_right]
  congr 1
  rw [Int.mul_comm, Int.mul_comm ((accY rows owners (L.map Kp.kp)).getD j 0) ch, Int.mul_assoc]
theorem fit (h : Honest rows owners s L txt) (x : Kp) (hx : x ∈ L) (v : Int) (hv : 0 ≤ v ∧ v < 1073741789) : (powP 4 v == wantP rows owners (commitsOf s) txt (L.map Kp.pr) x.pr) = decide (v = h.z x) := by
  rw [h.want x hx, Bool.eq_iff_iff, beq_iff_eq, decide_eq_true_eq]
  have hz := h.z_bd x hx
  constructor
  · intro e
    have := ex_inj (show ex v = ex (h.z x) from e)
    rwa [md_id hv, md_id hz] at this
  · intro e; rw [e]; rfl
/-- ALL PARTS ARE A SIGNATURE. -/
theorem signs (h : Honest rows owners s L txt) : verB (ex (s.getD 0 0)) txt (chN (ex (s.getD 0 0)) txt (L.map Kp.pr)) (sumQ (L.map h.z)) = true := by
  refine ver_ok (sumQ_bd _) ?_
  rw [sumQ_md]
  exact parts_md h.prog h.len L (incr_nodup h.inc) h.acc (fun x => (bindN (ex (s.getD 0 0)) txt (allV (L.map Kp.pr)) x.kp : Int)) _ h.z h.z_md
/-- The logarithm of the point. -/
theorem point (_h : Honest rows owners s L txt) : prodP (nonceN (ex (s.getD 0 0)) txt (allV (L.map Kp.pr))) (L.map Kp.pr) = ex (logN (ex (s.getD 0 0)) txt (allV (L.map Kp.pr)) L) := point_ex _ _ _ _
theorem whole (_h : Honest rows owners s L txt) (n : Int) (hn : md n = md (logN (ex (s.getD 0 0)) txt (allV (L.map Kp.pr)) L)) : verB (ex (s.getD 0 0)) txt (chN (ex (s.getD 0 0)) txt (L.map Kp.pr)) (add n (mul (chN (ex (s.getD 0 0)) txt (L.map Kp.pr)) (s.getD 0 0))) = true := by
  refine ver_ok (md_bd _) ?_
  generalize logN (ex (s.getD 0 0)) txt (allV (L.map Kp.pr)) L = u at *
  unfold add mul
  rw [md_md]
  generalize chN (ex (s.getD 0 0)) txt (L.map Kp.pr) * s.getD 0 0 = y
  unfold md at *; omega
end Honest

end Go.Proofs.YtgacdmkhgllceaaGreatDoor
