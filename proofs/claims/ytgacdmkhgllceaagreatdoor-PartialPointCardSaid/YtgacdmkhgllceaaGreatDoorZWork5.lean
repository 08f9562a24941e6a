/- partial.begin as one contract; find. -/
import Derived.Test.YtgacdmkhgllceaaGreatDoorZWork4
namespace Go.Proofs.YtgacdmkhgllceaaGreatDoor
open Go.RowKit Go.Shelf

/-- The error of the first arguments. -/
noncomputable def begE (ep : Int) (rows : List (List Int)) (owners commits : List Int) (tl : Nat) (ps : List Pr) : Int :=
  if earlyE ep rows owners commits tl ps.length ≠ 0 then earlyE ep rows owners commits tl ps.length else if goodB rows owners ps = true then 0 else 420
/-- What is known of a work. -/
structure Begun (w w' : World) (g : Nat) (vy vl : Value) (ep : Int) (vr vo vc vt vp : Value) (rows : List (List Int)) (owners commits : List Int) (txt : List UInt8) (ps : List Pr) : Prop where
  wb : WorkB w' g ep vr vo vc vt vp vy vl (prodP (nonceN (commits.headD 0) txt (allV ps)) ps) (hashN signTag (encVal (.list [.int (prodP (nonceN (commits.headD 0) txt (allV ps)) ps), .int (commits.headD 0), .text txt])))
  wr : WorkR w' g (commits.headD 0) txt (allV ps)
  wy : Ints w' vy (accY rows owners (ps.map Pr.kp))
  new : w.heap.size ≤ g
  yown : ∀ k, vy.ownBlock = some k → w.heap.size ≤ k
  val : ∀ Wx : World, (∀ b, w.heap.size ≤ b → b < w'.heap.size → Wx.heap[b]? = w'.heap[b]?) → ValV Wx (allV ps) (.agg #[I 3, I 0, strV [], vl])
  siz : (encVal (allV ps)).length ≤ 1000000 ∧ dep (allV ps) ≤ 12
  key : ∃ cs, commits = commits.headD 0 :: cs ∧ Sg.vld (commits.headD 0) = true
  len : txt.length ≤ 65536
/-- A work in a later world, which has kept the blocks of begin. -/
theorem Begun.later {w w' Wx : World} {g : Nat} {vy vl : Value} {ep : Int} {vr vo vc vt vp : Value} {rows : List (List Int)} {owners commits : List Int} {txt : List UInt8} {ps : List Pr} (h : Begun w w' g vy vl ep vr vo vc vt vp rows owners commits txt ps)
    (hx : ∀ b, w.heap.size ≤ b → b < w'.heap.size → Wx.heap[b]? = w'.heap[b]?) (hc : Ints Wx vc commits) (ht : Bytes Wx vt txt) :
    WorkB Wx g ep vr vo vc vt vp vy vl (prodP (nonceN (commits.headD 0) txt (allV ps)) ps) (hashN signTag (encVal (.list [.int (prodP (nonceN (commits.headD 0) txt (allV ps)) ps), .int (commits.headD 0), .text txt]))) ∧
    WorkR Wx g (commits.headD 0) txt (allV ps) ∧ Ints Wx vy (accY rows owners (ps.map Pr.kp)) := by
  have hb : WorkB Wx g ep vr vo vc vt vp vy vl (prodP (nonceN (commits.headD 0) txt (allV ps)) ps) (hashN signTag (encVal (.list [.int (prodP (nonceN (commits.headD 0) txt (allV ps)) ps), .int (commits.headD 0), .text txt]))) :=
    (hx g h.new (Array.getElem?_eq_some_iff.1 h.wb).1).trans h.wb
  obtain ⟨cs, hcs, hcv⟩ := h.key
  exact ⟨hb, hb.read (cs := cs) (hcs ▸ hc) hcv ht h.len (h.val Wx hx) h.siz, h.wy.far2 fun k e hk => hx k (h.yown k e) hk⟩
theorem early_zero {ep : Int} {rows : List (List Int)} {owners commits : List Int} {tl pl : Nat} (he : earlyE ep rows owners commits tl pl = 0) : progErr rows owners = 0 ∧ keyR ep rows commits = true ∧ tl ≤ 65536 ∧ pl ≤ 64 := by
  unfold earlyE at he
  by_cases q1 : progErr rows owners = 0
  · rw [if_neg (by rw [q1]; decide)] at he
    cases q2 : keyR ep rows commits with
    | false => rw [if_pos q2] at he; exact absurd he (by decide)
    | true =>
      rw [if_neg (by rw [q2]; decide)] at he
      refine ⟨q1, rfl, ?_⟩
      split at he
      · exact absurd he (by decide)
      · split at he
        · exact absurd he (by decide)
        · omega
  · rw [if_pos q1] at he; exact absurd he q1
theorem begE_zero {ep : Int} {rows : List (List Int)} {owners commits : List Int} {tl : Nat} {ps : List Pr} (h : begE ep rows owners commits tl ps = 0) : earlyE ep rows owners commits tl ps.length = 0 ∧ goodB rows owners ps = true := by
  unfold begE at h
  by_cases h1 : earlyE ep rows owners commits tl ps.length = 0
  · rw [if_neg (by rw [h1]; decide)] at h
    refine ⟨h1, ?_⟩
    cases h2 : goodB rows owners ps with
    | true => rfl
    | false => rw [if_neg (by rw [h2]; decide)] at h; exact absurd h (by decide)
  · rw [if_pos h1] at h; exact absurd h h1

theorem begin_bad (ep : Int) (vr vo vc vt vp : Value) (rows : List (List Int)) (owners commits : List Int) (txt : List UInt8) (ps : List Pr) (w : World) (hr : Rows2 w vr rows) (ho : Ints w vo owners) (hc : Ints w vc commits) (ht : Bytes w vt txt) (hp : Pairs w vp ps) (hg : Glob w)
    (he : begE ep rows owners commits txt.length ps ≠ 0) :
    Calls Tryz.prog 48 #[.agg #[I ep, vr, vo, vc], vt, vp] w fun e w' => e = .returned (.tuple #[.pointer none, I (begE ep rows owners commits txt.length ps)]) ∧ Below w.heap.size w w' := by
  by_cases h1 : earlyE ep rows owners commits txt.length ps.length = 0
  · have h2 : goodB rows owners ps = false := by
      cases h2 : goodB rows owners ps with
      | false => rfl
      | true => exact absurd (by unfold begE; rw [if_neg (by rw [h1]; decide), if_pos h2]) he
    refine (begin_any ep vr vo vc vt vp rows owners commits txt ps w hr ho hc ht hp hg h1).mono ?_
    rintro e w' ⟨h3 | h3, hb⟩
    · refine ⟨?_, hb⟩
      rw [h3.2]
      have : begE ep rows owners commits txt.length ps = 420 := by unfold begE; rw [if_neg (by rw [h1]; decide), if_neg (by rw [h2]; decide)]
      rw [this]
    · rw [h2] at h3; exact absurd h3.1 (by decide)
  · have : begE ep rows owners commits txt.length ps = earlyE ep rows owners commits txt.length ps.length := by unfold begE; rw [if_pos h1]
    rw [this]
    exact begin_early ep vr vo vc vt vp rows owners commits txt ps w hr ho hc ht hp h1
theorem begin_good (ep : Int) (vr vo vc vt vp : Value) (rows : List (List Int)) (owners commits : List Int) (txt : List UInt8) (ps : List Pr) (w : World) (hr : Rows2 w vr rows) (ho : Ints w vo owners) (hc : Ints w vc commits) (ht : Bytes w vt txt) (hp : Pairs w vp ps) (hg : Glob w)
    (he : begE ep rows owners commits txt.length ps = 0) :
    Calls Tryz.prog 48 #[.agg #[I ep, vr, vo, vc], vt, vp] w fun e w' => ∃ g vy vl, e = .returned (.tuple #[.pointer (some ⟨g, 0, none⟩), I 0]) ∧ Begun w w' g vy vl ep vr vo vc vt vp rows owners commits txt ps ∧ Below w.heap.size w w' := by
  obtain ⟨h1, h2⟩ := begE_zero he
  obtain ⟨q1, q2, q3, q4⟩ := early_zero h1
  refine (begin_any ep vr vo vc vt vp rows owners commits txt ps w hr ho hc ht hp hg h1).mono ?_
  rintro e w' ⟨h3 | ⟨_, g, vy, vl, rfl, h4, h5, h6, h7⟩, hb⟩
  · rw [h2] at h3; exact absurd h3.1 (by decide)
  · obtain ⟨c0, cs, rfl, hcv⟩ := key_head (cols_pos q1).1 q2
    have hpo : prsOk ps (-1) = true := by
      unfold goodB at h2
      cases h : prsOk ps (-1) with
      | true => rfl
      | false => rw [h] at h2; exact absurd h2 (by simp)
    have hsz := allV_size q4 (prsOk_mem ps (-1) (Int.le_refl _) hpo)
    exact ⟨g, vy, vl, rfl, ⟨h7, h7.read (hc.below hb) hcv (ht.below hb) q3 (h6 w' fun _ _ _ => rfl) hsz, h5.1, h4, h5.2, h6, hsz, ⟨cs, rfl, hcv⟩, q3⟩, hb⟩

/-! ### find -/

theorem find2_pred : PredOf 127 #[] oddQ := by
  refine ⟨enters_of Tryz.func127 (by kernel_rfl) rfl, fun x w => ?_⟩
  go_enter Tryz.func127, Tryz.ntmps127
  by_cases h : x < 0
  · go_wp2
    go_ret
    exact ⟨ret_bool (by unfold oddQ; simp [h]), rfl⟩
  · have h2 : ¬ x < 0 := h
    go_wp2
    go_ret
    exact ⟨ret_bool (by unfold oddQ; rw [Bool.eq_iff_iff]; simp; omega), rfl⟩

theorem find1_any (b : Nat) (kp : Int) (x : Pr) (w : World) (hc : w.cell? ⟨b, 0, none⟩ = some (I kp)) :
    Calls Tryz.prog 125 #[.agg #[I x.kp, I x.no, I x.d, I x.e], .pointer (some ⟨b, 0, none⟩)] w fun e w' => e = .returned (.bool (x.kp == kp)) ∧ Below w.heap.size w w' := by
  have hc1 := keepA (.cells #[I x.kp, I x.no, I x.d, I x.e] 85) hc
  have b0 : (w.alloc (.cells #[I x.kp, I x.no, I x.d, I x.e] 85)).cell? ⟨w.heap.size, 0, none⟩ = some (I x.kp) := by rw [World.cell?_alloc_new]; rfl
  go_enter Tryz.func125, Tryz.ntmps125
  go_wp2
  go_ret
  exact ⟨rfl, (Below.refl _ _).alloc (Nat.le_refl _) _⟩

theorem idx_at {α : Type} {p : α → Bool} {xs : List α} (h : ¬ idx p xs < 0) : ∃ (i : Nat) (hi : i < xs.length), idx p xs = i ∧ p xs[i] = true := by
  unfold idx at h ⊢
  cases hf : xs.findIdx? p with
  | none => rw [hf] at h; exact absurd (show ((-1 : Int)) < 0 by decide) h
  | some i =>
    obtain ⟨hi, hp, _⟩ := List.findIdx?_eq_some_iff_getElem.1 hf
    exact ⟨i, hi, rfl, hp⟩
/-- Is a pair a keeper's? -/
def isKp (kp : Int) (x : Pr) : Bool := x.kp == kp
set_option maxHeartbeats 1000000 in
theorem indexPair_any (b : Nat) (kp : Int) (v : Value) (ps : List Pr) (w : World) (hv : Pairs w v ps) (hc : w.cell? ⟨b, 0, none⟩ = some (I kp)) :
    Calls Tryz.prog 124 #[v, .func (.func 125) #[] #[.pointer (some ⟨b, 0, none⟩)]] w fun e w' => e = .returned (I (idx (isKp kp) ps)) ∧ Below w.heap.size w w' := by
  obtain ⟨A, c, rfl, hm⟩ := hv.shape
  have HV := Lib.hid hv
  have HC := Lib.hid hc
  have hen := enters_of (P := Tryz.prog) (f := 125) Tryz.func125 (by kernel_rfl) rfl
  clear hv hc
  go_enter Tryz.func124, Tryz.ntmps124
  go_wp2
  go_loopw [5, 8] (fun _ i wr => ∃ k : Nat, k ≤ ps.length ∧ i = I k ∧ Hid (Below w.heap.size w wr) ∧ Hid (∀ x ∈ ps.take k, isKp kp x = false)) (fun _ i _ => ps.length - (intOf i).toNat)
  case atStart => exact ⟨0, Nat.zero_le _, rfl, Lib.hid (Below.refl _ _), Lib.hid (by simp)⟩
  case round =>
    obtain ⟨k, hk, rfl, hbw, hb⟩ := hrel
    by_cases hlt : k < ps.length
    · obtain ⟨ad, rfl, hp⟩ := HV.out.at k hlt
      obtain ⟨e1, e2, e3, e4, e5⟩ := PairE.stays _ _ _ _ (Below.old hbw.out) hp
      have hcr := keep hbw.out HC.out
      have HX : Hid (∃ x, ps[k] = x) := Lib.hid ⟨_, rfl⟩
      obtain ⟨x, hx⟩ := HX.out
      have HXE := Lib.hid hx
      rw [hx] at e1 e2 e3 e4
      clear hx hp HX
      go_wp2_with fail
      refine (find1_any b kp x _ hcr).mono ?_
      rintro e w2 ⟨rfl, hb2⟩
      have HB2 : Hid (Below w.heap.size w w2) := Lib.hid (hbw.out.trans (hb2.mono hbw.out.size))
      clear hb2 e1 e2 e3 e4 hcr
      cases hq : isKp kp x with
      | true =>
        have HI := Lib.hid (idx_some hlt (by rw [HXE.out]; exact hq) hb.out)
        have hq2 : (x.kp == kp) = true := hq
        clear hq
        go_wp2
        go_ret
        exact ⟨ret_int HI.out.symm, HB2.out⟩
      | false =>
        have HI := Lib.hid (take_all_snoc hlt hb.out (by rw [HXE.out]; exact hq))
        have hq2 : (x.kp == kp) = false := hq
        clear hq
        go_wp2
        go_roundw
        case rel => exact ⟨k + 1, by omega, by go_num, HB2, HI⟩
        case measure => simp [intOf]; omega
    · have HI := Lib.hid (idx_none (p := isKp kp) (xs := ps) (by have := hb.out; rwa [List.take_of_length_le (by omega)] at this))
      go_wp2
      go_ret
      exact ⟨ret_int HI.out.symm, hbw.out⟩

set_option maxRecDepth 1000000 in
theorem agg_pr (W : World) : (isAgg 85).run Tryz.prog W = .ok true W := by rfl
set_option maxRecDepth 1000000 in
theorem size_pr (W : World) : (sizeOf 85).run Tryz.prog W = .ok 4 W := by rfl
/-- A pair that is a result and lies in a cell of its own. -/
theorem results_pr {fn : Func} {t s : Tmp} (h : fn.results = #[.cell t 85, .tmp s]) (tmps : Array Value) (W : World) (g : Nat) (a b c d e : Value) (hp : tmps.getD t undef = .pointer (some ⟨g, 0, none⟩)) (he : tmps.getD s undef = e)
    (c0 : W.cell? ⟨g, 0, none⟩ = some a) (c1 : W.cell? ⟨g, 1, none⟩ = some b) (c2 : W.cell? ⟨g, 2, none⟩ = some c) (c3 : W.cell? ⟨g, 3, none⟩ = some d) : (results fn tmps).run Tryz.prog W = .ok (.tuple #[.agg #[a, b, c, d], e]) W := by
  have hl : (loadCells ⟨g, 0, none⟩ 4).run Tryz.prog W = .ok #[a, b, c, d] W :=
    run_loadCells_list (P := Tryz.prog) W ⟨g, 0, none⟩ [a, b, c, d] (fun j v hv => by
      have hadd : (⟨g, 0, none⟩ : Addr).add j = ⟨g, j, none⟩ := by unfold Addr.add; split <;> simp_all
      rw [hadd]
      have hj : j < 4 := (List.getElem?_eq_some_iff.1 hv).1
      have : j = 0 ∨ j = 1 ∨ j = 2 ∨ j = 3 := by omega
      rcases this with rfl | rfl | rfl | rfl <;> (injection hv with hv; subst hv; assumption))
  have hrun : (loadVar 85 ⟨g, 0, none⟩).run Tryz.prog W = .ok (.agg #[a, b, c, d]) W := by
    simp only [Go.loadVar, Sem.run_bind, agg_pr, size_pr, hl, Result.andThen_ok, if_true, Sem.run_pure]
  have hp' : tmps[t]?.getD undef = .pointer (some ⟨g, 0, none⟩) := by simpa using hp
  have he' : tmps[s]?.getD undef = e := by simpa using he
  simp [results, h, hp', he', asAddr, hrun]
/-- A pair stored in a block of its own. -/
theorem wpList_storeP {ops : Array Oper} {rest : List Oper} {o : Oper} {a : Act} {Q : Exit → Act → World → Prop} {W : World} (hgd : o.guard = none) (p x : Operand) (ho : o.op = .store 85 p x) (g : Nat) (cur : Array Value) (t : TypeId) (q : Quad)
    (hp : a.eval p = .pointer (some ⟨g, 0, none⟩)) (hx : a.eval x = .agg #[q.a, q.b, q.c, q.d]) (hrow : W.heap[g]? = some (.cells cur t (0, 0))) (hs : cur.size = 4) (h1 : ∀ u ∈ [q.a, q.b, q.c, q.d], u.oneCell' = true)
    (hk : ∀ W', Hid (W'.heap[g]? = some (.cells #[q.a, q.b, q.c, q.d] t (0, 0))) → Same (fun k => k ≠ g) W W' → W'.heap.size = W.heap.size → wpList Tryz.prog ops Q rest (a.put o.dst undef) W') : wpList Tryz.prog ops Q (o :: rest) a W := by
  refine wpList_plain hgd fun K hK => ?_
  have e : (cur.toList.take 0 ++ [q.a, q.b, q.c, q.d] ++ cur.toList.drop (0 + 4)).toArray = #[q.a, q.b, q.c, q.d] := by
    rw [List.take_zero, List.drop_of_length_le (by rw [Array.length_toList]; omega)]; rfl
  have hrun : (storeVar 85 ⟨g, 0, none⟩ (.agg #[q.a, q.b, q.c, q.d])).run Tryz.prog W = .ok () (W.setRow g (cur.toList.take 0 ++ [q.a, q.b, q.c, q.d] ++ cur.toList.drop (0 + 4)).toArray) := by
    have h := run_storeCells_at Tryz.prog g 0 t [q.a, q.b, q.c, q.d] 0 cur W hrow (by simp [hs]) h1
    simp only [Go.storeVar, Sem.run_bind, size_pr, Result.andThen_ok]
    exact h
  rw [e] at hrun
  have hk2 := hk _ (Lib.hid (setRow_heap W g cur _ t (0, 0) hrow)) ⟨rfl, rfl, rfl, by simp [World.setRow], fun i _ hi => setRow_other W g i _ hi⟩ (by simp [World.setRow])
  clear hk
  generalize W.setRow g #[q.a, q.b, q.c, q.d] = W' at *
  unfold Oper.wp
  simp [execOp, ho, hp, hx, Instr.storeAt, Instr.sureAddr, hrun, Result.andThen]
  exact hK _ _ hk2

theorem find_blocks (w : World) (kp : Int) :
    ((w.alloc (.cells #[I kp] 3)).alloc (.cells #[I 0, I 0, I 0, I 0] 85)).cell? ⟨w.heap.size, 0, none⟩ = some (I kp) ∧ Below w.heap.size w ((w.alloc (.cells #[I kp] 3)).alloc (.cells #[I 0, I 0, I 0, I 0] 85)) ∧
    ((w.alloc (.cells #[I kp] 3)).alloc (.cells #[I 0, I 0, I 0, I 0] 85)).heap[w.heap.size + 1]? = some (.cells #[I 0, I 0, I 0, I 0] 85 (0, 0)) := by
  refine ⟨keepA _ (by rw [World.cell?_alloc_new]; rfl), ((Below.refl _ w).alloc (Nat.le_refl _) _).alloc (by simp) _, ?_⟩
  have h := World.alloc_heap_new (w.alloc (.cells #[I kp] 3)) (.cells #[I 0, I 0, I 0, I 0] 85)
  rwa [World.size_alloc] at h

/-- What find returns. -/
def FindR (ps : List Pr) (ns : List Int) (kp : Int) (e : Ending) : Prop :=
  ((idx (isKp kp) ps < 0 ∨ ns.any oddQ = true) ∧ e = .returned (.tuple #[.agg #[I 0, I 0, I 0, I 0], I 1])) ∨
  ∃ (i : Nat) (hi : i < ps.length), idx (isKp kp) ps = i ∧ ns.any oddQ = false ∧ e = .returned (.tuple #[ps[i].v, I 0])

set_option maxRecDepth 100000 in
set_option maxHeartbeats 2000000 in
theorem find_any (g : Nat) (kp : Int) (vp vn : Value) (ps : List Pr) (ns : List Int) (w : World) (hc5 : w.cell? ⟨g, 5, none⟩ = some vp) (hp : Pairs w vp ps) (hn : Ints w vn ns) :
    Calls Tryz.prog 54 #[.pointer (some ⟨g, 0, none⟩), I kp, vn] w fun e w' => FindR ps ns kp e ∧ Below w.heap.size w w' := by
  obtain ⟨Ap, cp, rfl, hmp⟩ := hp.shape
  obtain ⟨An, cn, rfl, hmn⟩ := hn.shape
  obtain ⟨f1, f2, f3⟩ := find_blocks w kp
  obtain ⟨W, hW⟩ : ∃ W, (w.alloc (.cells #[I kp] 3)).alloc (.cells #[I 0, I 0, I 0, I 0] 85) = W := ⟨_, rfl⟩
  rw [hW] at f1 f2 f3
  have HP := Lib.hid (hp.below f2)
  have HN := Lib.hid (hn.below f2)
  have HB := Lib.hid f2
  have H3 := Lib.hid f3
  have HC := Lib.hid f1
  have h5 := keep f2 hc5
  clear hp hn f1 f2 f3 hc5 hmp hmn
  go_enter Tryz.func54, Tryz.ntmps54
  go_wp2_with fail
  refine (indexPair_any w.heap.size kp _ ps W HP.out HC.out).mono ?_
  rintro e w2 ⟨rfl, hb2⟩
  have HB2 : Hid (Below w.heap.size w w2) := Lib.hid (HB.out.trans (hb2.mono HB.out.size))
  have HP2 := Lib.hid (HP.out.below hb2)
  have HN2 := Lib.hid (HN.out.below hb2)
  have H32 := Lib.hid ((hb2.block (w.heap.size + 1) (Array.getElem?_eq_some_iff.1 H3.out).1).trans H3.out)
  replace h5 := keep hb2 h5
  clear hb2 hW
  have c0 : w2.cell? ⟨w.heap.size + 1, 0, none⟩ = some (I 0) := by rw [cell_of_row w2 _ 0 _ _ (0, 0) H32.out]; rfl
  have c1 : w2.cell? ⟨w.heap.size + 1, 1, none⟩ = some (I 0) := by rw [cell_of_row w2 _ 1 _ _ (0, 0) H32.out]; rfl
  have c2 : w2.cell? ⟨w.heap.size + 1, 2, none⟩ = some (I 0) := by rw [cell_of_row w2 _ 2 _ _ (0, 0) H32.out]; rfl
  have c3 : w2.cell? ⟨w.heap.size + 1, 3, none⟩ = some (I 0) := by rw [cell_of_row w2 _ 3 _ _ (0, 0) H32.out]; rfl
  have f0 : ∀ i, w2.frozen? ⟨w.heap.size + 1, i, none⟩ = false := fun i => by unfold World.frozen?; rw [H32.out]; rfl
  have f00 := f0 0
  have f01 := f0 1
  have f02 := f0 2
  have f03 := f0 3
  have i0 := setCell_id c0
  have i1 := setCell_id c1
  have i2 := setCell_id c2
  have i3 := setCell_id c3
  clear f0
  by_cases hneg : idx (isKp kp) ps < 0
  · have HNG := Lib.hid hneg
    go_wp2
    refine bodyPost_ret (results_pr rfl _ _ (w.heap.size + 1) _ _ _ _ (I 1) rfl rfl c0 c1 c2 c3) rfl ?_
    exact ⟨.inl ⟨.inl HNG.out, rfl⟩, HB2.out⟩
  · obtain ⟨i, hi, he, hkp⟩ := idx_at hneg
    have HNG := Lib.hid he
    have hng : decide (idx (isKp kp) ps < 0) = false := decide_eq_false hneg
    rw [he] at hng ⊢
    have hneg2 : ¬ (i : Int) < 0 := by omega
    clear hneg he hng
    cases hq : ns.any oddQ with
    | true =>
      have HQ := Lib.hid hq
      go_wp2_with fail
      refine (containsInt_any _ _ _ find2_pred _ ns _ HN2.out).mono ?_
      rintro e w3 ⟨rfl, rfl⟩
      rw [HQ.out]
      clear hq
      go_wp2
      refine bodyPost_ret (results_pr rfl _ _ (w.heap.size + 1) _ _ _ _ (I 1) rfl rfl c0 c1 c2 c3) rfl ?_
      exact ⟨.inl ⟨.inr HQ.out, rfl⟩, HB2.out⟩
    | false =>
      have HQ := Lib.hid hq
      obtain ⟨ad, rfl, e1, e2, e3, e4, e5⟩ := HP2.out.at i hi
      have HX : Hid (∃ x, ps[i] = x) := Lib.hid ⟨_, rfl⟩
      obtain ⟨x, hx⟩ := HX.out
      have HXE := Lib.hid hx
      rw [hx] at e1 e2 e3 e4
      have hil : (i : Int) < (ps.length : Int) := by omega
      clear hx HX i0 i1 i2 i3 hq
      go_wp2_with fail
      refine (containsInt_any _ _ _ find2_pred _ ns _ HN2.out).mono ?_
      rintro e w3 ⟨rfl, rfl⟩
      rw [HQ.out]
      go_wp2_with (refine wpList_storeP rfl _ _ rfl (w.heap.size + 1) _ _ ⟨I x.kp, I x.no, I x.d, I x.e⟩ rfl rfl H32.out rfl (by intro u hu; simp at hu; rcases hu with rfl | rfl | rfl | rfl <;> rfl) ?_; intro w4 hr4 hs4 hz4)
      refine bodyPost_ret (results_pr rfl _ _ (w.heap.size + 1) (I x.kp) (I x.no) (I x.d) (I x.e) (I 0) rfl rfl (by rw [cell_of_row w4 _ 0 _ _ (0, 0) hr4.out]; rfl) (by rw [cell_of_row w4 _ 1 _ _ (0, 0) hr4.out]; rfl) (by rw [cell_of_row w4 _ 2 _ _ (0, 0) hr4.out]; rfl) (by rw [cell_of_row w4 _ 3 _ _ (0, 0) hr4.out]; rfl)) rfl ?_
      refine ⟨.inr ⟨i, hi, HNG.out, HQ.out, ?_⟩, HB2.out.trans (hs4.below (fun k hk => by omega) HB2.out.size)⟩
      rw [HXE.out]

end Go.Proofs.YtgacdmkhgllceaaGreatDoor
