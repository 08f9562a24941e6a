/- partial.begin walked: the pairs. -/
import Derived.Test.YtgacdmkhgllceaaGreatDoorZLin7
import Derived.Test.YtgacdmkhgllceaaGreatDoorZRely2
import Derived.Test.YtgacdmkhgllceaaGreatDoorZOwnSet
import Derived.Deep.Cut
import Derived.Deep.CutRange
import Derived.Deep.Heap
namespace Go.Proofs.YtgacdmkhgllceaaGreatDoor
open Go.RowKit Go.Shelf

set_option maxRecDepth 100000 in
set_option maxHeartbeats 1000000 in
theorem plist_nil (w : World) : Calls Tryz.prog 112 #[.slice none 0 0] w fun e w' => e = .returned (.agg #[I 3, I 0, strV [], .slice none 0 0]) ∧ Below w.heap.size w w' := by
  obtain ⟨W, hW⟩ : ∃ W, w.alloc (.cells #[I 3, I 0, strV [], .slice none 0 0] 96) = W := ⟨_, rfl⟩
  have hg : W.heap[w.heap.size]? = some (.cells #[I 3, I 0, strV [], .slice none 0 0] 96 (0, 0)) := by rw [← hW]; exact heap_alloc_new _ _
  have HB : Hid (Below w.heap.size w W) := Lib.hid (by rw [← hW]; exact (Below.refl _ _).alloc (Nat.le_refl _) _)
  have c0 : W.cell? ⟨w.heap.size, 0, none⟩ = some (I 3) := by rw [cell_of_row W _ 0 _ _ (0, 0) hg]; rfl
  have c1 : W.cell? ⟨w.heap.size, 1, none⟩ = some (I 0) := by rw [cell_of_row W _ 1 _ _ (0, 0) hg]; rfl
  have c2 : W.cell? ⟨w.heap.size, 2, none⟩ = some (strV []) := by rw [cell_of_row W _ 2 _ _ (0, 0) hg]; rfl
  have c3 : W.cell? ⟨w.heap.size, 3, none⟩ = some (.slice none 0 0) := by rw [cell_of_row W _ 3 _ _ (0, 0) hg]; rfl
  have f0 : ∀ i, W.frozen? ⟨w.heap.size, i, none⟩ = false := fun i => by unfold World.frozen?; rw [hg]; rfl
  have f00 := f0 0
  have f01 := f0 1
  have f02 := f0 2
  have f03 := f0 3
  have i0 := setCell_id c0
  have i1 := setCell_id c1
  have i2 := setCell_id c2
  have i3 := setCell_id c3
  have HC := Lib.hid (And.intro c0 (And.intro c1 (And.intro c2 c3)))
  clear f0 hg
  go_enter Tryz.func112, Tryz.ntmps112
  go_wp2
  go_loopw [11] (fun i wr => i = I 0 ∧ wr = W) (fun _ _ => 0)
  case atStart => exact ⟨rfl, by first | exact hW | rfl⟩
  case round =>
    obtain ⟨rfl, rfl⟩ := hrel
    go_wp2
    obtain ⟨c0, c1, c2, c3⟩ := HC.out
    refine bodyPost_ret (results_val rfl _ _ w.heap.size _ _ _ _ rfl c0 c1 c2 c3) rfl ?_
    exact ⟨rfl, HB.out⟩

/-- Is a pair right behind a keeper? -/
noncomputable def prOk (last : Int) (x : Pr) : Bool := !(decide (x.kp ≤ last) || decide (64 ≤ x.kp) || decide (x.no < 0) || decide (4096 ≤ x.no) || oddP x.d || oddP x.e)
noncomputable def prsOk : List Pr → Int → Bool
  | [], _ => true
  | x :: l, last => prOk last x && prsOk l x.kp
def prIts (x : Pr) : List Item := [.int x.kp, .int x.no, .int x.d, .int x.e]
def prV (x : Pr) : Val := .list ((prIts x).map Item.toVal)
/-- All pairs as one value. -/
def allV (ps : List Pr) : Val := .list (ps.map prV)
/-- The work's block. -/
def WorkB (W : World) (g : Nat) (ep : Int) (vr vo vc vt vp vy vl : Value) (pt ch : Int) : Prop :=
  W.heap[g]? = some (.cells #[I ep, vr, vo, vc, vt, vp, vy, I 3, I 0, strV [], vl, I pt, I ch] 98 (0, 0))
/-- What begin's letters are. -/
def KV (w0 : World) (ep : Int) (vr vo vc vt vp : Value) (j : Nat) (v : Value) (w : World) : Prop :=
  match j with
  | 5 => ∃ g, v = .pointer (some ⟨g, 0, none⟩) ∧ w0.heap.size ≤ g ∧ WorkB w g ep vr vo vc vt vp (.slice none 0 0) (.slice none 0 0) 0 0
  | _ => True
theorem KV.below {w0 : World} {ep : Int} {vr vo vc vt vp : Value} {w w' : World} (hb : Below w.heap.size w w') : ∀ (j : Nat) (u : Value), KV w0 ep vr vo vc vt vp j u w → KV w0 ep vr vo vc vt vp j u w' := by
  intro j u h
  unfold KV at *
  split at h
  · obtain ⟨g, h1, h2, h3⟩ := h
    exact ⟨g, h1, h2, (hb.block g (Array.getElem?_eq_some_iff.1 h3).1).trans h3⟩
  · trivial

/-- A pair's value in the row of all. -/
def InnerI (W : World) (base : Nat) (x : Pr) (q : Quad) (vw vl : Value) : Prop :=
  ∃ vi qs, q = ⟨I 3, I 0, strV [], vi⟩ ∧ OwnOf 96 4 encQ W base vi qs ∧ qs.length = 4 ∧ (∀ W' j (h1 : j < qs.length) (h2 : j < ((prIts x).map Item.toVal).length), ValV W' ((prIts x).map Item.toVal)[j] qs[j].agg) ∧
    ∀ b, vi.ownBlock = some b → vw.ownBlock ≠ some b ∧ vl.ownBlock ≠ some b
theorem InnerI.kept {W W' : World} {base : Nat} {x : Pr} {q : Quad} {vw vl vw' vl' : Value} (h : InnerI W base x q vw vl) (hk : ∀ b, base ≤ b → b < W.heap.size → vw.ownBlock ≠ some b → vl.ownBlock ≠ some b → W'.heap[b]? = W.heap[b]?)
    (hw : vw'.ownBlock = vw.ownBlock ∨ ∃ b, vw'.ownBlock = some b ∧ W.heap.size ≤ b) (hl : vl'.ownBlock = vl.ownBlock ∨ ∃ b, vl'.ownBlock = some b ∧ W.heap.size ≤ b) : InnerI W' base x q vw' vl' := by
  obtain ⟨vi, qs, h1, h2, h3, h4, h5⟩ := h
  have hb := h2.base_le
  refine ⟨vi, qs, h1, h2.kept (fun b e => hk b (hb b e).1 (hb b e).2 (h5 b e).1 (h5 b e).2), h3, h4, fun b e => ⟨fun e2 => ?_, fun e2 => ?_⟩⟩
  · rcases hw with h | ⟨c, h, hc⟩
    · rw [h] at e2; exact (h5 b e).1 e2
    · rw [h] at e2; injection e2 with e2; have := (hb b e).2; omega
  · rcases hl with h | ⟨c, h, hc⟩
    · rw [h] at e2; exact (h5 b e).2 e2
    · rw [h] at e2; injection e2 with e2; have := (hb b e).2; omega
/-- What the letters of the region of a pair are. -/
def PV (w4 : World) (x : Pr) (j : Nat) (v : Value) (w : World) : Prop :=
  match j with
  | 17 => Items w v (prIts x)
  | 18 => ∃ vi qs, v = .agg #[I 3, I 0, strV [], vi] ∧ OwnOf 96 4 encQ w w4.heap.size vi qs ∧ qs.length = 4 ∧ ∀ W' j (h1 : j < qs.length) (h2 : j < ((prIts x).map Item.toVal).length), ValV W' ((prIts x).map Item.toVal)[j] qs[j].agg
  | 20 => ∃ nb, v = .slice (some ⟨nb, 0, none⟩) 1 1 ∧ w4.heap.size ≤ nb ∧ w.heap[nb]? = some (.cells #[I 0, I 0, strV [], .slice none 0 0] 96 (0, 0))
  | _ => True
theorem PV.below {w4 : World} {x : Pr} {w w' : World} (hb : Below w.heap.size w w') : ∀ (j : Nat) (u : Value), PV w4 x j u w → PV w4 x j u w' := by
  intro j u h
  unfold PV at *
  split at h
  · exact h.below hb
  · obtain ⟨vi, qs, h1, h2, h3, h4⟩ := h
    exact ⟨vi, qs, h1, h2.below hb, h3, h4⟩
  · obtain ⟨nb, h1, h2, h3⟩ := h
    exact ⟨nb, h1, h2, (hb.block nb (Array.getElem?_eq_some_iff.1 h3).1).trans h3⟩
  · trivial
theorem int_val {w W' : World} {n : Int} {v : Value} (h : ValV w (.int n) v) : ValV W' (.int n) v := by
  cases h with
  | int n h0 h1 => exact .int n h0 h1
/-- How far begin's loop has come. -/
structure LoopI (w0 W : World) (g b : Nat) (ep : Int) (vr vo vc vt vp : Value) (ps : List Pr) (k : Nat) (last : Int) (vw : Value) : Prop where
  bel : Below w0.heap.size w0 W
  who : OwnOf 3 1 encI W (g + 1) vw ((ps.take k).map Pr.kp)
  wrk : ∃ vl es, WorkB W g ep vr vo vc vt vp (.slice none 0 0) vl 0 0 ∧ OwnOf 96 4 encQ W (g + 1) vl es ∧ es.length = k ∧ (∀ i (h1 : i < es.length) (h2 : i < ps.length), InnerI W (g + 1) ps[i] es[i] vw vl) ∧ ∀ j, vw.ownBlock = some j → vl.ownBlock ≠ some j
  oks : prsOk ps (-1) = prsOk (ps.drop k) last
  lst : -1 ≤ last
  siz : g + 1 ≤ W.heap.size
  key : W.cell? ⟨b, 1, none⟩ = some vr ∧ W.cell? ⟨b, 2, none⟩ = some vo

theorem prsOk_who : ∀ (ps : List Pr) (last : Int), -1 ≤ last → prsOk ps last = true → whoOk (ps.map Pr.kp) last = true
  | [], _, _, _ => rfl
  | x :: l, last, hl, h => by
    simp only [prsOk, Bool.and_eq_true] at h
    obtain ⟨h1, h2⟩ := h
    unfold prOk at h1
    simp at h1
    simp only [List.map_cons, whoOk, Bool.and_eq_true, decide_eq_true_eq]
    refine ⟨?_, by omega, prsOk_who l x.kp (by omega) h2⟩
    unfold isP within
    simp; omega
theorem prsOk_mem : ∀ (ps : List Pr) (last : Int), -1 ≤ last → prsOk ps last = true → ∀ x ∈ ps, (0 ≤ x.kp ∧ x.kp < 64) ∧ (0 ≤ x.no ∧ x.no < 4096) ∧ Sg.vld x.d = true ∧ Sg.vld x.e = true
  | [], _, _, _, _, hx => by simp at hx
  | y :: l, last, hl, h, x, hx => by
    simp only [prsOk, Bool.and_eq_true] at h
    obtain ⟨h1, h2⟩ := h
    have h3 := h1
    unfold prOk oddP at h1
    simp at h1
    rcases List.mem_cons.1 hx with rfl | hx
    · exact ⟨by omega, by omega, h1.1.2, h1.2⟩
    · exact prsOk_mem l y.kp (by omega) h2 x hx
theorem prV_len {x : Pr} (h1 : x.kp < 64) (h2 : x.no < 4096) (h3 : x.d < 2147483579) (h4 : x.e < 2147483579) : (encVal (prV x)).length ≤ 47 := by
  have k1 := enc_int_len (n := x.kp) (by omega)
  have k2 := enc_int_len (n := x.no) (by omega)
  have k3 := enc_int_len (n := x.d) (by omega)
  have k4 := enc_int_len (n := x.e) (by omega)
  have k := enc_list_len (l := (prIts x).map Item.toVal) (show 4 ≤ 16000 by decide)
  refine Nat.le_trans k ?_
  show (encVals [.int x.kp, .int x.no, .int x.d, .int x.e]).length + 3 ≤ 47
  simp only [encVals, List.length_append, List.length_nil]
  omega
theorem allV_rows : ∀ (ps : List Pr), (∀ x ∈ ps, (0 ≤ x.kp ∧ x.kp < 64) ∧ (0 ≤ x.no ∧ x.no < 4096) ∧ Sg.vld x.d = true ∧ Sg.vld x.e = true) → (encVals (ps.map prV)).length ≤ 47 * ps.length ∧ deps (ps.map prV) ≤ 1
  | [], _ => ⟨Nat.zero_le _, Nat.zero_le _⟩
  | x :: l, h => by
    obtain ⟨⟨_, h1⟩, ⟨_, h2⟩, h3, h4⟩ := h x (by simp)
    have k := prV_len h1 h2 (vld_range h3).2 (vld_range h4).2
    obtain ⟨i1, i2⟩ := allV_rows l fun y hy => h y (by simp [hy])
    have d1 : dep (prV x) = 1 := rfl
    simp only [List.map_cons, encVals, deps, List.length_append, List.length_cons]
    omega
theorem allV_size {ps : List Pr} (hm : ps.length ≤ 64) (h : ∀ x ∈ ps, (0 ≤ x.kp ∧ x.kp < 64) ∧ (0 ≤ x.no ∧ x.no < 4096) ∧ Sg.vld x.d = true ∧ Sg.vld x.e = true) : (encVal (allV ps)).length ≤ 1000000 ∧ dep (allV ps) ≤ 12 := by
  obtain ⟨h1, h2⟩ := allV_rows ps h
  have k := enc_list_len (l := ps.map prV) (by rw [List.length_map]; omega)
  refine ⟨Nat.le_trans k (by omega), ?_⟩
  show deps (ps.map prV) + 1 ≤ 12
  omega
theorem valAll {W : World} {base : Nat} {ps : List Pr} {es : List Quad} {vw vl : Value} (ho : OwnOf 96 4 encQ W base vl es) (hel : es.length = ps.length) (hm : ps.length ≤ 64)
    (hI : ∀ i (h1 : i < es.length) (h2 : i < ps.length), InnerI W base ps[i] es[i] vw vl) : ValV W (allV ps) (.agg #[I 3, I 0, strV [], vl]) :=
  ValV.ofOwn ho (ps.map prV) (by rw [List.length_map]; exact hel) (by omega) (fun i h1 h2 => by
    obtain ⟨vi, qs, e, hio, hil, hiV, _⟩ := hI i h1 (by simpa using h2)
    rw [e, List.getElem_map]
    exact ValV.ofOwn hio ((prIts ps[i]).map Item.toVal) (by rw [hil]; rfl) (by omega) (fun j h1 h2 => hiV W j h1 h2))
/-- Does begin accept? -/
noncomputable def goodB (rows : List (List Int)) (owners : List Int) (ps : List Pr) : Bool := prsOk ps (-1) && accB rows owners (ps.map Pr.kp) && decide (0 < ps.length)
/-- What begin returns behind its early checks. -/
def BeginR (w w' : World) (ep : Int) (vr vo vc vt vp : Value) (rows : List (List Int)) (owners : List Int) (c0 : Int) (txt : List UInt8) (ps : List Pr) (e : Ending) : Prop :=
  (goodB rows owners ps = false ∧ e = .returned (.tuple #[.pointer none, I 420])) ∨
  (goodB rows owners ps = true ∧ ∃ g vy vl, e = .returned (.tuple #[.pointer (some ⟨g, 0, none⟩), I 0]) ∧ w.heap.size ≤ g ∧ (Ints w' vy (accY rows owners (ps.map Pr.kp)) ∧ ∀ k, vy.ownBlock = some k → w.heap.size ≤ k) ∧ (∀ Wx : World, (∀ b, w.heap.size ≤ b → b < w'.heap.size → Wx.heap[b]? = w'.heap[b]?) → ValV Wx (allV ps) (.agg #[I 3, I 0, strV [], vl])) ∧
    WorkB w' g ep vr vo vc vt vp vy vl (prodP (nonceN c0 txt (allV ps)) ps) (hashN signTag (encVal (.list [.int (prodP (nonceN c0 txt (allV ps)) ps), .int c0, .text txt]))))

theorem key_head {ep : Int} {rows : List (List Int)} {commits : List Int} (h0 : 1 ≤ cols rows) (h : keyR ep rows commits = true) : ∃ c0 cs, commits = c0 :: cs ∧ Sg.vld c0 = true := by
  unfold keyR at h
  simp only [Bool.and_eq_true, decide_eq_true_eq] at h
  obtain ⟨⟨_, h1⟩, h2⟩ := h
  cases commits with
  | nil => simp at h1; omega
  | cons c0 cs =>
    refine ⟨c0, cs, rfl, ?_⟩
    have h3 : ([c0].any oddP || cs.any oddP) = false := by simpa [List.any_cons] using h2
    simpa [oddP] using (Bool.or_eq_false_iff.1 h3).1
theorem Ints.far {w w' : World} {v : Value} {xs : List Int} (h : Ints w v xs) (hk : ∀ k, v.ownBlock = some k → w'.heap[k]? = w.heap[k]?) : Ints w' v xs := by
  obtain ⟨A, c, rfl, h2, h3, h4⟩ := h
  refine ⟨A, c, rfl, h2, h3, fun i hi => ?_⟩
  obtain ⟨ad, rfl, e⟩ := h4 i hi
  refine ⟨ad, rfl, (World.cell?_of_block (w := w) ?_).trans e⟩
  have hb : (ad.add (i * 1)).block = ad.block := by unfold Addr.add; split <;> rfl
  rw [hb]
  exact hk ad.block rfl
theorem Ints.far2 {w w' : World} {v : Value} {xs : List Int} (h : Ints w v xs) (hk : ∀ k, v.ownBlock = some k → k < w.heap.size → w'.heap[k]? = w.heap[k]?) : Ints w' v xs := by
  obtain ⟨A, c, rfl, h2, h3, h4⟩ := h
  refine ⟨A, c, rfl, h2, h3, fun i hi => ?_⟩
  obtain ⟨ad, rfl, e⟩ := h4 i hi
  have hb : (ad.add (i * 1)).block = ad.block := by unfold Addr.add; split <;> rfl
  have hl := cell_old e
  refine ⟨ad, rfl, (World.cell?_of_block (w := w) ?_).trans e⟩
  rw [hb] at hl ⊢
  exact hk ad.block rfl hl
theorem mulP_range (a b : Int) : 0 ≤ mulP a b ∧ mulP a b < 2147483579 := by unfold mulP; split <;> omega
theorem prodP_range {α : Type} (f : α → Int) : ∀ (l : List α) (c : Int), 0 ≤ c → c < 2147483579 → 0 ≤ l.foldl (fun x y => mulP x (f y)) c ∧ l.foldl (fun x y => mulP x (f y)) c < 2147483579
  | [], _, h1, h2 => ⟨h1, h2⟩
  | x :: l, c, _, _ => by rw [List.foldl_cons]; exact prodP_range f l _ (mulP_range _ _).1 (mulP_range _ _).2
/-- A work's block reads as a work. -/
theorem WorkB.read {W : World} {g : Nat} {ep : Int} {vr vo vc vt vp vy vl : Value} {pt ch : Int} {c0 : Int} {cs : List Int} {txt : List UInt8} {all : Val} (h : WorkB W g ep vr vo vc vt vp vy vl pt ch) (hc : Ints W vc (c0 :: cs)) (h0 : Sg.vld c0 = true) (ht : Bytes W vt txt) (hl : txt.length ≤ 65536)
    (ha : ValV W all (.agg #[I 3, I 0, strV [], vl])) (he : (encVal all).length ≤ 1000000 ∧ dep all ≤ 12) : WorkR W g c0 txt all := by
  have hr := vld_range h0
  exact ⟨⟨vc, cs, by rw [cell_of_row W g 3 _ _ (0, 0) h]; rfl, hc⟩, ⟨vt, by rw [cell_of_row W g 4 _ _ (0, 0) h]; rfl, ht⟩,
    ⟨I 3, I 0, strV [], vl, by rw [cell_of_row W g 7 _ _ (0, 0) h]; rfl, by rw [cell_of_row W g 8 _ _ (0, 0) h]; rfl, by rw [cell_of_row W g 9 _ _ (0, 0) h]; rfl, by rw [cell_of_row W g 10 _ _ (0, 0) h]; rfl, ha⟩, by omega, hl, he.1, he.2⟩
theorem WorkB.below {W W' : World} {g : Nat} {ep : Int} {vr vo vc vt vp vy vl : Value} {pt ch : Int} (h : WorkB W g ep vr vo vc vt vp vy vl pt ch) (hb : Below W.heap.size W W') : WorkB W' g ep vr vo vc vt vp vy vl pt ch :=
  (hb.block g (Array.getElem?_eq_some_iff.1 h).1).trans h
def chIts (pt c0 : Int) (txt : List UInt8) : List Item := [.int pt, .int c0, .bytes txt]
/-- What the letters of the challenge's region are. -/
def CV (pt c0 : Int) (txt : List UInt8) (j : Nat) (v : Value) (w : World) : Prop :=
  match j with
  | 16 => Items w v (chIts pt c0 txt)
  | 17 => v = I (hashN signTag (encVal (.list [.int pt, .int c0, .text txt])) : Int)
  | _ => True
theorem CV.below {pt c0 : Int} {txt : List UInt8} {w w' : World} (hb : Below w.heap.size w w') : ∀ (j : Nat) (u : Value), CV pt c0 txt j u w → CV pt c0 txt j u w' := by
  intro j u h
  unfold CV at *
  split at h
  · exact h.below hb
  · exact h
  · trivial

set_option maxRecDepth 100000 in
set_option maxHeartbeats 2000000 in
theorem begin_any (ep : Int) (vr vo vc vt vp : Value) (rows : List (List Int)) (owners commits : List Int) (txt : List UInt8) (ps : List Pr) (w : World) (hr : Rows2 w vr rows) (ho : Ints w vo owners) (hc : Ints w vc commits) (ht : Bytes w vt txt) (hp : Pairs w vp ps) (hglob : Glob w)
    (he : earlyE ep rows owners commits txt.length ps.length = 0) :
    Calls Tryz.prog 48 #[.agg #[I ep, vr, vo, vc], vt, vp] w fun e w' => BeginR w w' ep vr vo vc vt vp rows owners (commits.headD 0) txt ps e ∧ Below w.heap.size w w' := by
  have q1 : progErr rows owners = 0 := by
    unfold earlyE at he; split at he
    · exact absurd he (by assumption)
    · rename_i h; exact Decidable.not_not.1 h
  have q2 : keyR ep rows commits = true := by
    unfold earlyE at he; rw [if_neg (by rw [q1]; decide)] at he
    cases h : keyR ep rows commits with
    | false => rw [if_pos h] at he; exact absurd he (by decide)
    | true => rfl
  have q34 : txt.length ≤ 65536 ∧ ps.length ≤ 64 := by
    unfold earlyE at he; rw [if_neg (by rw [q1]; decide), if_neg (by rw [q2]; decide)] at he
    split at he
    · exact absurd he (by decide)
    · split at he
      · exact absurd he (by decide)
      · omega
  obtain ⟨At, ct, rfl, hmt⟩ := ht.shape
  obtain ⟨Ap, cp, rfl, hmp⟩ := hp.shape
  obtain ⟨W, hW⟩ : ∃ W, w.alloc (.cells #[I ep, vr, vo, vc] 27) = W := ⟨_, rfl⟩
  have b0 : W.cell? ⟨w.heap.size, 0, none⟩ = some (I ep) := by rw [← hW, World.cell?_alloc_new]; rfl
  have b1 : W.cell? ⟨w.heap.size, 1, none⟩ = some vr := by rw [← hW, World.cell?_alloc_new]; rfl
  have b2 : W.cell? ⟨w.heap.size, 2, none⟩ = some vo := by rw [← hW, World.cell?_alloc_new]; rfl
  have b3 : W.cell? ⟨w.heap.size, 3, none⟩ = some vc := by rw [← hW, World.cell?_alloc_new]; rfl
  have hba : Below w.heap.size w W := by rw [← hW]; exact (Below.refl _ w).alloc (Nat.le_refl _) _
  have HB := Lib.hid hba
  have HR := Lib.hid (hr.below hba)
  have HO := Lib.hid (ho.below hba)
  have HC := Lib.hid (hc.below hba)
  have HR0 := Lib.hid hr
  have HO0 := Lib.hid ho
  have HC0 := Lib.hid hc
  have HT0 := Lib.hid ht
  have HP0 := Lib.hid hp
  have Q1 := Lib.hid q1
  have Q2 := Lib.hid q2
  have g1 : (progErr rows owners != 0) = false := by rw [q1]; rfl
  have g3 : (txt.length : Int) ≤ 65536 := by omega
  have g4 : (ps.length : Int) ≤ 64 := by omega
  have HPL : Hid (ps.length ≤ 64) := Lib.hid q34.2
  have HTL : Hid (txt.length ≤ 65536) := Lib.hid q34.1
  have HG0 := Lib.hid hglob
  clear hglob
  have HCS : Hid (∃ c0 cs, commits = c0 :: cs ∧ Sg.vld c0 = true) := Lib.hid (key_head (cols_pos q1).1 q2)
  clear hr ho hc hba ht hp hmt hmp he q1 q2 q34
  go_enter Tryz.func48, Tryz.ntmps48
  go_wp2_with fail
  refine (progCheck_any _ _ rows owners _ HR.out HO.out).mono ?_
  rintro e w1 ⟨rfl, hb1⟩
  replace b0 := keep hb1 b0
  replace b1 := keep hb1 b1
  replace b2 := keep hb1 b2
  replace b3 := keep hb1 b3
  have HB1 := Lib.hid (below_step HB.out hb1)
  have HR1 := Lib.hid (HR.out.below hb1)
  have HC1 := Lib.hid (HC.out.below hb1)
  clear hb1 hW
  go_wp2_with fail
  refine (keyRight_any ep _ _ _ rows commits _ HR1.out HC1.out).mono ?_
  rintro e w2 ⟨rfl, hb2⟩
  replace b0 := keep hb2 b0
  replace b1 := keep hb2 b1
  replace b2 := keep hb2 b2
  replace b3 := keep hb2 b3
  have HB2 : Hid (Below w.heap.size w w2) := Lib.hid (HB1.out.trans (hb2.mono HB1.out.size))
  rw [Q2.out]
  clear hb2 HR1 HC1 HB1 HR HO HC HB
  go_wp2
  refine Rely.regionB _ _ (by kernel_rfl) [0,1,2,3,4] [5] [6] (KV w2 ep vr vo vc (.slice At txt.length ct) (.slice Ap ps.length cp)) (fun _ => True) (by kernel_rfl) (fun _ _ => trivial) ?_
  (refine Rely.Fx.load ?rlcz rfl (by kernel_rfl) rfl (Rely.Stab.refl _ _ _) (fun _ hb => ?rlhz) ?rlkz; (case rlhz => (have hr0 := (hb.cell (cell_old b0)).trans b0; have hr1 := (hb.cell (cell_old b1)).trans b1; have hr2 := (hb.cell (cell_old b2)).trans b2; have hr3 := (hb.cell (cell_old b3)).trans b3; go_simp; try rfl)); go_simp)
  (refine Rely.Fx.run ?rlc1 rfl rfl (fun _ _ => ?rlh1) ?rlk1; (case rlh1 => (go_simp; try rfl)); go_simp)
  (refine Rely.Fx.run ?rlc2 rfl rfl (fun _ _ => ?rlh2) ?rlk2; (case rlh2 => (go_simp; try rfl)); go_simp)
  (refine Rely.Fx.call (o := ?rlo3) (Value.agg #[I 3, I 0, strV [], .slice none 0 0]) 36 ?rlho3 ?rlhd3 (by simp) (by kernel_rfl) ?rlh3 ?rlk3; (case rlho3 => (simp only [List.getElem?_toArray, List.getElem?_cons_succ, List.getElem?_cons_zero]; rfl)); (case rlhd3 => rfl))
  · intro w3 hb
    go_wp2_with fail
    refine (plist_nil _).mono ?_
    rintro e w4 ⟨rfl, hb4⟩
    go_wp2
    exact ⟨_, rfl, rfl, hb.trans (hb4.mono hb.size), fun j _ _ u hu => KV.below hb4 j u hu⟩
  go_simp
  (refine Rely.Fx.run ?rlc4 rfl rfl (fun _ _ => ?rlh4) ?rlk4; (case rlh4 => (go_simp; try rfl)); go_simp)
  refine Rely.Fx.done ?_
  (refine Rely.Lt.step (o := ?rlo5) 38 ?rlho5 ?rlhd5 (by simp) ?rlh5 ?rlk5; (case rlho5 => (simp only [List.getElem?_toArray, List.getElem?_cons_succ, List.getElem?_cons_zero]; rfl)); (case rlhd5 => rfl))
  · intro w' hb hp
    clear hp
    go_wp2
    exact ⟨_, rfl, ⟨w'.heap.size, rfl, hb.size, heap_alloc_new _ _⟩, hb.alloc hb.size _, Rely.Stab.one _ _ _ _⟩
  intro v5
  go_simp
  refine Rely.Lt.done ?_
  intro w3 hb hp
  obtain ⟨g, rfl, hgs, hgb⟩ : KV w2 ep vr vo vc (.slice At txt.length ct) (.slice Ap ps.length cp) 5 v5 w3 := hp.one
  have HB3 : Hid (Below w.heap.size w w3) := Lib.hid (HB2.out.trans (hb.mono HB2.out.size))
  have HGB := Lib.hid hgb
  have HGW : Hid (w.heap.size + 1 ≤ g) := Lib.hid (by have := cell_old b0; dsimp only at this; omega)
  replace b1 := keep hb b1
  replace b2 := keep hb b2
  have HPC := Lib.hid (And.intro b1 b2)
  clear hb hp hgb hgs b0 b1 b2 b3 HB2
  (refine Rely.Tl.last (o := ?rlo6) ?rlho6 ?rlk6; (case rlho6 => (simp only [List.getElem?_toArray, List.getElem?_cons_succ, List.getElem?_cons_zero]; rfl)))
  go_wp2
  refine ⟨rfl, ?_⟩
  go_wp2
  go_loopw [6, 7, 9, 10, 12, 41] (fun p e9 vw vl _ i wr => ∃ k : Nat, k ≤ ps.length ∧ i = I k ∧ p = .pointer (some ⟨g, 0, none⟩) ∧ e9 = I 0 ∧ ∃ last : Int, vl = I last ∧ Hid (LoopI w wr g w.heap.size ep vr vo vc (.slice At txt.length ct) (.slice Ap ps.length cp) ps k last vw)) (fun _ _ _ _ _ i _ => ps.length - (intOf i).toNat)
  case atStart => exact ⟨0, Nat.zero_le _, rfl, rfl, rfl, -1, rfl, Lib.hid ⟨HB3.out, OwnOf.nil _ _ _ _ _, ⟨_, [], HGB.out, OwnOf.nil _ _ _ _ _, rfl, (fun i h1 => by simp at h1), (fun j e => by cases e)⟩, rfl, Int.le_refl _, (Array.getElem?_eq_some_iff.1 HGB.out).1, HPC.out⟩⟩
  case round =>
    obtain ⟨k, hk, rfl, rfl, rfl, last, rfl, hli⟩ := hrel
    by_cases hlt : k < ps.length
    · have hlt2 : (k : Int) < ps.length := by omega
      obtain ⟨ad, rfl, hx⟩ := HP0.out.at k hlt
      obtain ⟨e1, e2, e3, e4, e5⟩ := PairE.stays _ _ _ _ (Below.old hli.out.bel) hx
      have HXX := Lib.hid (rfl : ps[k] = ps[k])
      generalize hxe : ps[k] = x at *
      have HXE := Lib.hid hxe
      obtain ⟨WX, hWX⟩ : ∃ WX, wr.alloc (.cells #[I x.kp, I x.no, I x.d, I x.e] 85) = WX := ⟨_, rfl⟩
      have hbx : Below wr.heap.size wr WX := by rw [← hWX]; exact (Below.refl _ _).alloc (Nat.le_refl _) _
      have x0 : WX.cell? ⟨wr.heap.size, 0, none⟩ = some (I x.kp) := by rw [← hWX, World.cell?_alloc_new]; rfl
      have x1 : WX.cell? ⟨wr.heap.size, 1, none⟩ = some (I x.no) := by rw [← hWX, World.cell?_alloc_new]; rfl
      have x2 : WX.cell? ⟨wr.heap.size, 2, none⟩ = some (I x.d) := by rw [← hWX, World.cell?_alloc_new]; rfl
      have x3 : WX.cell? ⟨wr.heap.size, 3, none⟩ = some (I x.e) := by rw [← hWX, World.cell?_alloc_new]; rfl
      have HBX := Lib.hid hbx
      clear hx hbx hxe
      go_upto_region 16 with (fail)
      clear e1 e2 e3 e4 e5 hWX
      go_cut [75] from 45 to 75 (fun b wx => b = .bool (!prOk last x) ∧ wx = WX)
      case first =>
        by_cases a0 : x.kp ≤ last
        · have HQ : Hid (prOk last x = false) := Lib.hid (by unfold prOk; simp [a0])
          clear HXX HXE
          go_wp2_with fail
          go_meet
          exact ⟨by rw [HQ.out]; rfl, rfl⟩
        have n0 : last < x.kp := by omega
        by_cases a1 : 64 ≤ x.kp
        · have HQ : Hid (prOk last x = false) := Lib.hid (by unfold prOk; simp [a1])
          clear HXX HXE
          go_wp2_with fail
          go_meet
          exact ⟨by rw [HQ.out]; rfl, rfl⟩
        have n1 : x.kp < 64 := by omega
        by_cases a2 : x.no < 0
        · have HQ : Hid (prOk last x = false) := Lib.hid (by unfold prOk; simp [a2])
          clear HXX HXE
          go_wp2_with fail
          go_meet
          exact ⟨by rw [HQ.out]; rfl, rfl⟩
        have n2 : 0 ≤ x.no := by omega
        by_cases a3 : 4096 ≤ x.no
        · have HQ : Hid (prOk last x = false) := Lib.hid (by unfold prOk; simp [a3])
          clear HXX HXE
          go_wp2_with fail
          go_meet
          exact ⟨by rw [HQ.out]; rfl, rfl⟩
        have n3 : x.no < 4096 := by omega
        cases a4 : Sg.vld x.d with
        | false =>
          have HQ : Hid (prOk last x = false) := Lib.hid (by unfold prOk oddP; simp [a4])
          go_wp2_with fail
          refine (valid_any x.d _).mono ?_
          rintro e' w' ⟨rfl, rfl⟩
          rw [a4]
          go_wp2_with fail
          go_meet
          exact ⟨by rw [HQ.out]; rfl, rfl⟩
        | true =>
          have HQ : Hid (prOk last x = Sg.vld x.e) := Lib.hid (by unfold prOk oddP; rw [a4]; simp [a0, a1, a2, a3])
          go_wp2_with fail
          refine (valid_any x.d _).mono ?_
          rintro e' w' ⟨rfl, rfl⟩
          rw [a4]
          go_wp2_with fail
          refine (valid_any x.e _).mono ?_
          rintro e' w' ⟨rfl, rfl⟩
          go_wp2_with fail
          go_meet
          exact ⟨by rw [HQ.out], rfl⟩
      case rest =>
        obtain ⟨rfl, rfl⟩ := hcut
        cases hq : prOk last x with
        | false =>
          have HBAD : Hid (goodB rows owners ps = false) := Lib.hid (by
            have h : prsOk ps (-1) = false := by
              rw [hli.out.oks, List.drop_eq_getElem_cons hlt, HXE.out]
              show (prOk last x && prsOk (ps.drop (k + 1)) x.kp) = _
              rw [hq]; rfl
            unfold goodB; rw [h]; rfl)
          have HBC : Hid (Below w.heap.size w wc) := Lib.hid (hli.out.bel.trans (HBX.out.mono hli.out.bel.size))
          clear hli
          go_wp2
          go_ret2
          exact ⟨.inl ⟨HBAD.out, rfl⟩, HBC.out⟩
        | true =>
          obtain ⟨hbel, hwho, ⟨vl, es, hWB, hOL, hel, hVV, hdis⟩, hoks, hlst, hsiz, hkey⟩ := hli.out
          obtain ⟨wk, hwk⟩ : ∃ wk, (ps.take k).map Pr.kp = wk := ⟨_, rfl⟩
          rw [hwk] at hwho
          have hwl : wk.length = k := by rw [← hwk, List.length_map, List.length_take]; omega
          obtain ⟨Aw, cw, rfl⟩ := hwho.shape
          obtain ⟨Al, cl, rfl⟩ := hOL.shape
          have HWHO := Lib.hid (hwho.below HBX.out)
          have HOL := Lib.hid (hOL.below HBX.out)
          have HWB : Hid (WorkB wc g ep vr vo vc (.slice At txt.length ct) (.slice (some ad) ps.length cp) (.slice none 0 0) (.slice Al es.length cl) 0 0) := Lib.hid ((HBX.out.block g (by omega)).trans hWB)
          have HDIS := Lib.hid hdis
          have HOKS := Lib.hid hoks
          have HLST := Lib.hid hlst
          have HSIZ : Hid (g + 1 ≤ wr.heap.size) := Lib.hid hsiz
          have HSX : Hid (wr.heap.size < wc.heap.size) := Lib.hid (cell_old x0)
          have HBC : Hid (Below w.heap.size w wc) := Lib.hid (hbel.trans (HBX.out.mono hbel.size))
          have HVV := Lib.hid hVV
          have HWK := Lib.hid hwk
          have HWL := Lib.hid hwl
          have HEL := Lib.hid hel
          have HOWB := Lib.hid (hwho.base_le)
          have HOLB := Lib.hid (hOL.base_le)
          have HKEY := Lib.hid hkey
          clear hbel hwho hWB hOL hel hVV hdis hoks hlst hsiz hkey hwk hwl hli
          go_wp2_with (at_builtin; refine app_box (w0 := wc.alloc _) (g + 1) rfl _ _ 23 3 (I 0) 1 8 rfl Tryz.underlying23 info_int rfl (by decide) (by decide) encI _ wk x.kp rfl #[I x.kp] rfl rfl (by intro u hu; simp at hu; subst hu; rfl) wc.heap.size rfl (heap_alloc_new _ _) (HWHO.out.alloc _) (Below.refl _ _) (by have := HSIZ.out; have := HSX.out; simp; omega) (by have := HWL.out; have := HPL.out; omega) ?_; intro v4 w4 ho4 hb4 hk4 hs4 hat4)
          have HK4 : Hid (∀ j, j < wc.heap.size → (Value.slice Aw wk.length cw).ownBlock ≠ some j → w4.heap[j]? = wc.heap[j]?) := Lib.hid (fun j hj hne => (hk4 j (by simp; omega) hne).trans (heap_alloc_old wc _ hj))
          have HS4 : Hid (Same (fun j => (Value.slice Aw wk.length cw).ownBlock ≠ some j) wc w4) := Lib.hid ⟨hb4.os, hb4.tape, hb4.output, by have := hs4; simp at this; omega, fun j hj hne => HK4.out j hj hne⟩
          have hnx : (Value.slice Aw wk.length cw).ownBlock ≠ some wr.heap.size := fun e => by have := (HOWB.out _ e).2; omega
          have hng : (Value.slice Aw wk.length cw).ownBlock ≠ some g := fun e => by have := (HOWB.out _ e).1; omega
          have HWB4 : Hid (WorkB w4 g ep vr vo vc (.slice At txt.length ct) (.slice (some ad) ps.length cp) (.slice none 0 0) (.slice Al es.length cl) 0 0) := Lib.hid ((HK4.out g (by have := HSIZ.out; have := HSX.out; omega) hng).trans HWB.out)
          have HOL4 := Lib.hid (HOL.out.kept (fun j e => HK4.out j (by have := (HOLB.out j e).2; have := HSX.out; omega) (fun e2 => HDIS.out j e2 e)))
          have HVV4 : Hid (∀ i (h1 : i < es.length) (h2 : i < ps.length), InnerI w4 (g + 1) ps[i] es[i] v4 (.slice Al es.length cl)) := Lib.hid (fun i h1 h2 => by
            have h := (HVV.out i h1 h2)
            refine h.kept (fun b _ hb h1 h2 => (HK4.out b (by have := HSX.out; omega) h1).trans (HBX.out.block b hb)) ?_ (.inl rfl)
            rcases hat4 with e | ⟨b, e, hb⟩
            · exact .inl e
            · exact .inr ⟨b, e, by have := HSX.out; simp at hb; omega⟩)
          have HO4 := Lib.hid ho4
          have HXR : Hid (0 ≤ x.kp ∧ x.kp < 64 ∧ 0 ≤ x.no ∧ x.no < 4096 ∧ Sg.vld x.d = true ∧ Sg.vld x.e = true) := Lib.hid (by
            unfold prOk oddP at hq
            have h1 := HLST.out
            simp at hq
            refine ⟨by omega, by omega, by omega, by omega, ?_, ?_⟩
            · cases h : Sg.vld x.d <;> simp_all
            · cases h : Sg.vld x.e <;> simp_all)
          have HAT := Lib.hid hat4
          replace x0 := HS4.out.cell (a := ⟨wr.heap.size, 0, none⟩) hnx x0
          replace x1 := HS4.out.cell (a := ⟨wr.heap.size, 1, none⟩) hnx x1
          replace x2 := HS4.out.cell (a := ⟨wr.heap.size, 2, none⟩) hnx x2
          replace x3 := HS4.out.cell (a := ⟨wr.heap.size, 3, none⟩) hnx x3
          have cg : w4.cell? ⟨g, 10, none⟩ = some (.slice Al es.length cl) := by rw [cell_of_row w4 g 10 _ _ (0, 0) HWB4.out]; rfl
          clear hb4 hk4 hs4 hnx hng ho4 hat4
          refine Rely.regionB2 _ _ (by kernel_rfl) [0,1,2,3,4,5,6,7,8,9,10,11,12,13,14,15,16,19,24,25,26] [17,18,20] [21,22,23,27] (PV w4 x) (fun _ => True) (by kernel_rfl) (fun _ _ => trivial) ?_
          (refine Rely.Fx.run ?rlc7 rfl rfl (fun _ _ => ?rlh7) ?rlk7; (case rlh7 => (go_simp; try rfl)); go_simp)
          (refine Rely.Fx.run ?rlc8 rfl rfl (fun _ _ => ?rlh8) ?rlk8; (case rlh8 => (go_simp; try rfl)); go_simp)
          (refine Rely.Fx.run ?rlc9 rfl rfl (fun _ _ => ?rlh9) ?rlk9; (case rlh9 => (go_simp; try rfl)); go_simp)
          (refine Rely.Fx.run ?rlc10 rfl rfl (fun _ _ => ?rlh10) ?rlk10; (case rlh10 => (go_simp; try rfl)); go_simp)
          (refine Rely.Fx.load ?rlc11 rfl (by kernel_rfl) rfl (Rely.Stab.refl _ _ _) (fun _ hb => ?rlh11) ?rlk11; (case rlh11 => (have hrl := (hb.cell (cell_old cg)).trans cg; go_simp; try rfl)); go_simp)
          (refine Rely.Fx.run ?rlc12 rfl rfl (fun _ _ => ?rlh12) ?rlk12; (case rlh12 => (go_simp; try rfl)); go_simp)
          (refine Rely.Fx.load ?rlc13 rfl (by kernel_rfl) rfl (Rely.Stab.refl _ _ _) (fun _ hb => ?rlh13) ?rlk13; (case rlh13 => (have hrl := (hb.cell (cell_old x0)).trans x0; go_simp; try rfl)); go_simp)
          (refine Rely.Fx.run ?rlc14 rfl rfl (fun _ _ => ?rlh14) ?rlk14; (case rlh14 => (go_simp; try rfl)); go_simp)
          (refine Rely.Fx.run ?rlc15 rfl rfl (fun _ _ => ?rlh15) ?rlk15; (case rlh15 => (go_simp; try rfl)); go_simp)
          (refine Rely.Fx.load ?rlc16 rfl (by kernel_rfl) rfl (Rely.Stab.refl _ _ _) (fun _ hb => ?rlh16) ?rlk16; (case rlh16 => (have hrl := (hb.cell (cell_old x1)).trans x1; go_simp; try rfl)); go_simp)
          (refine Rely.Fx.run ?rlc17 rfl rfl (fun _ _ => ?rlh17) ?rlk17; (case rlh17 => (go_simp; try rfl)); go_simp)
          (refine Rely.Fx.run ?rlc18 rfl rfl (fun _ _ => ?rlh18) ?rlk18; (case rlh18 => (go_simp; try rfl)); go_simp)
          (refine Rely.Fx.load ?rlc19 rfl (by kernel_rfl) rfl (Rely.Stab.refl _ _ _) (fun _ hb => ?rlh19) ?rlk19; (case rlh19 => (have hrl := (hb.cell (cell_old x2)).trans x2; go_simp; try rfl)); go_simp)
          (refine Rely.Fx.run ?rlc20 rfl rfl (fun _ _ => ?rlh20) ?rlk20; (case rlh20 => (go_simp; try rfl)); go_simp)
          (refine Rely.Fx.run ?rlc21 rfl rfl (fun _ _ => ?rlh21) ?rlk21; (case rlh21 => (go_simp; try rfl)); go_simp)
          (refine Rely.Fx.load ?rlc22 rfl (by kernel_rfl) rfl (Rely.Stab.refl _ _ _) (fun _ hb => ?rlh22) ?rlk22; (case rlh22 => (have hrl := (hb.cell (cell_old x3)).trans x3; go_simp; try rfl)); go_simp)
          (refine Rely.Fx.run ?rlc23 rfl rfl (fun _ _ => ?rlh23) ?rlk23; (case rlh23 => (go_simp; try rfl)); go_simp)
          (refine Rely.Fx.run ?rlc24 rfl rfl (fun _ _ => ?rlh24) ?rlk24; (case rlh24 => (go_simp; try rfl)); go_simp)
          (refine Rely.Fx.run ?rlc25 rfl rfl (fun _ _ => ?rlh25) ?rlk25; (case rlh25 => (go_simp; try rfl)); go_simp)
          (refine Rely.Fx.run ?rlc26 rfl rfl (fun _ _ => ?rlh26) ?rlk26; (case rlh26 => (go_simp; try rfl)); go_simp)
          (refine Rely.Fx.run ?rlc27 rfl rfl (fun _ _ => ?rlh27) ?rlk27; (case rlh27 => (go_simp; try rfl)); go_simp)
          refine Rely.Fx.done ?_
          clear x0 x1 x2 x3 cg
          (refine Rely.Lt.step (o := ?rlo28) 100 ?rlho28 ?rlhd28 (by simp) ?rlh28 ?rlk28; (case rlho28 => (simp only [List.getElem?_toArray, List.getElem?_cons_succ, List.getElem?_cons_zero]; rfl)); (case rlhd28 => rfl))
          · intro w' hb hp
            clear hp
            go_wp2
            have h := Items.new (w := w') [.iface 3 (I x.kp), .iface 3 (I x.no), .iface 3 (I x.d), .iface 3 (I x.e)] (prIts x) 20 rfl (show 4 ≤ 1000 by decide) (fun i j1 j2 => by
              have : i = 0 ∨ i = 1 ∨ i = 2 ∨ i = 3 := by simp at j1; omega
              have hx := HXR.out
              obtain ⟨d1, d2⟩ := vld_range hx.2.2.2.2.1
              obtain ⟨f1, f2⟩ := vld_range hx.2.2.2.2.2
              rcases this with rfl | rfl | rfl | rfl
              · exact .int _ hx.1 (by omega)
              · exact .int _ hx.2.2.1 (by omega)
              · exact .int _ (by omega) (by omega)
              · exact .int _ (by omega) (by omega))
            exact ⟨_, rfl, h, hb.alloc hb.size _, fun j _ _ u hu => PV.below ((Below.refl _ _).alloc (Nat.le_refl _) _) j u hu⟩
          intro v17
          go_simp
          (refine Rely.Lt.step (o := ?rlo29) 101 ?rlho29 ?rlhd29 (by simp) ?rlh29 ?rlk29; (case rlho29 => (simp only [List.getElem?_toArray, List.getElem?_cons_succ, List.getElem?_cons_zero]; rfl)); (case rlhd29 => rfl))
          · intro w' hb hp
            have hi : PV w4 x 17 v17 w' := hp.get 17 v17 (by simp) (by kernel_rfl)
            clear hp
            go_wp2_with fail
            refine (plist_own v17 (prIts x) w' hi (show 4 ≤ 1000 by decide)).mono ?_
            rintro r w3 ⟨vi, qs, rfl, ho3, hl3, hV3, hb3⟩
            have h18 : PV w4 x 18 (.agg #[I 3, I 0, strV [], vi]) w3 := ⟨vi, qs, rfl, ho3.base_mono hb.size, hl3, fun W' j h1 h2 => by
              have h := hV3 j h1 h2
              have hj : j < 4 := h2
              have : j = 0 ∨ j = 1 ∨ j = 2 ∨ j = 3 := by omega
              rcases this with rfl | rfl | rfl | rfl <;> exact int_val h⟩
            go_wp2
            exact ⟨_, rfl, h18, hb.trans (hb3.mono hb.size), fun j _ _ u hu => PV.below hb3 j u hu⟩
          intro v18
          go_simp
          (refine Rely.Lt.step (o := ?rlo30) 103 ?rlho30 ?rlhd30 (by simp) ?rlh30 ?rlk30; (case rlho30 => (simp only [List.getElem?_toArray, List.getElem?_cons_succ, List.getElem?_cons_zero]; rfl)); (case rlhd30 => rfl))
          · intro w' hb hp
            clear hp
            go_wp2
            exact ⟨_, rfl, ⟨w'.heap.size, rfl, hb.size, heap_alloc_new _ _⟩, hb.alloc hb.size _, fun j _ _ u hu => PV.below ((Below.refl _ _).alloc (Nat.le_refl _) _) j u hu⟩
          intro v20
          go_simp
          refine Rely.Lt.done ?_
          intro w5 hb5 hp5
          obtain ⟨nb, rfl, hnb1, hnb2⟩ : PV w4 x 20 v20 w5 := hp5.one
          obtain ⟨vi, qs, rfl, hio, hil, hiV⟩ : PV w4 x 18 v18 w5 := hp5.rest.one
          clear hp5
          obtain ⟨Ai, ci, rfl⟩ := hio.shape
          generalize hvi : Value.slice Ai qs.length ci = vi at *
          have HONE : Hid (∀ u ∈ [I 3, I 0, strV [], vi], u.oneCell' = true) := Lib.hid (by
            intro u hu; simp at hu; rcases hu with rfl | rfl | rfl | rfl
            · rfl
            · rfl
            · rfl
            · rw [← hvi]; rfl)
          clear hvi
          have HOL5 := Lib.hid (HOL4.out.below hb5)
          have HWB5 : Hid (WorkB w5 g ep vr vo vc (.slice At txt.length ct) (.slice (some ad) ps.length cp) (.slice none 0 0) (.slice Al es.length cl) 0 0) := Lib.hid ((hb5.block g (Array.getElem?_eq_some_iff.1 HWB4.out).1).trans HWB4.out)
          have HB5 := Lib.hid hb5
          have HBS4 : Hid (g + 1 ≤ w4.heap.size) := Lib.hid (Array.getElem?_eq_some_iff.1 HWB4.out).1
          have HBS5 : Hid (g + 1 ≤ w5.heap.size) := Lib.hid (Nat.le_trans HBS4.out hb5.size)
          have HNB := Lib.hid hnb2
          have HIO := Lib.hid hio
          have HIV := Lib.hid hiV
          have HIL := Lib.hid hil
          clear hb5 hio hiV hil
          (refine Rely.Tg.one (o := ?rlo31) 21 [22, 23, 27] (by kernel_rfl) ?rle31 ?rlho31 ?rlk31; (case rle31 => rfl); (case rlho31 => (simp only [List.getElem?_toArray, List.getElem?_cons_succ, List.getElem?_cons_zero]; rfl)))
          go_wp2_with (at_builtin; refine app_box (w0 := w5) (g + 1) rfl _ _ 94 96 (.agg #[I 0, I 0, strV [], .slice none 0 0]) 4 56 rfl Tryz.underlying94 info_val rfl (by decide) (by decide) encQ _ es ⟨I 0, I 0, strV [], .slice none 0 0⟩ rfl #[I 0, I 0, strV [], .slice none 0 0] rfl rfl (by intro u hu; simp at hu; rcases hu with rfl | rfl | rfl | rfl <;> rfl) nb rfl hnb2 HOL5.out (Below.refl _ _) HBS5.out (by have := HEL.out; have := HPL.out; omega) ?_; intro v6 w6 ho6 hb6 hk6 hs6 hat6)
          obtain ⟨gl, cap6, cur6, hv6, hgl, hrow6, hca, hcb, hcs, hct⟩ := own_row ho6 (by simp)
          rw [List.length_append, List.length_singleton] at hv6
          subst hv6
          have HW6 : Hid (WorkB w6 g ep vr vo vc (.slice At txt.length ct) (.slice (some ad) ps.length cp) (.slice none 0 0) (.slice Al es.length cl) 0 0) := Lib.hid ((hb6.block g (Nat.lt_succ_self _)).trans HWB5.out)
          have d10 : w6.cell? ⟨g, 10, none⟩ = some (.slice Al es.length cl) := by rw [cell_of_row w6 g 10 _ _ (0, 0) HW6.out]; rfl
          have f10 : w6.frozen? ⟨g, 10, none⟩ = false := by unfold World.frozen?; rw [HW6.out]; rfl
          have HR6 := Lib.hid hrow6
          have HFIN : Hid (∀ Wf : World, Wf.heap[gl]? = some (.cells (cur6.toList.take (es.length * 4) ++ [I 3, I 0, strV [], vi] ++ cur6.toList.drop (es.length * 4 + 4)).toArray 96 (0, 0)) →
            WorkB Wf g ep vr vo vc (.slice At txt.length ct) (.slice (some ad) ps.length cp) (.slice none 0 0) (.slice (some ⟨gl, 0, none⟩) (es.length + 1) cap6) 0 0 → Same (fun j => j ≠ gl ∧ j ≠ g) w6 Wf →
            LoopI w Wf g w.heap.size ep vr vo vc (.slice At txt.length ct) (.slice (some ad) ps.length cp) ps (k + 1) x.kp v4) := Lib.hid (fun Wf r1 r2 r3 => by
            have hel := HEL.out
            have hsz5 := HB5.out.size
            have hx4 := HBS4.out
            have hx5 := HBS5.out
            have hgl2 : (Value.slice Al es.length cl).ownBlock = some gl ∨ w5.heap.size ≤ gl := by
              rcases hat6 with e | ⟨b, e, hb⟩
              · exact .inl e.symm
              · right; have e2 : some gl = some b := e
                injection e2 with e2; omega
            have hlb : ∀ j, (Value.slice Al es.length cl).ownBlock = some j → j < w4.heap.size := fun j e => (HOL4.out.base_le j e).2
            have k6 : ∀ j, j < w5.heap.size → j ≠ g → (Value.slice Al es.length cl).ownBlock ≠ some j → Wf.heap[j]? = w5.heap[j]? := fun j hj h2 h3 =>
              (r3.block j (by omega) ⟨fun e => by
                subst e; rcases hgl2 with h | h
                · exact h3 h
                · omega, h2⟩).trans (hk6 j hj h3)
            have h4w : ∀ j, v4.ownBlock = some j → g + 1 ≤ j ∧ j < w4.heap.size := HO4.out.base_le
            have h4l : ∀ j, v4.ownBlock = some j → (Value.slice Al es.length cl).ownBlock ≠ some j := fun j e e2 => by
              rcases HAT.out with h | ⟨b, h, hb⟩
              · rw [h] at e; exact HDIS.out j e e2
              · rw [h] at e; injection e with e; have := (HOLB.out j e2).2; have := HSX.out; simp at hb; omega
            have h4g : ∀ j, v4.ownBlock = some j → (Value.slice (some ⟨gl, 0, none⟩) (es.length + 1) cap6).ownBlock ≠ some j := fun j e e2 => by
              have e3 : some gl = some j := e2
              injection e3 with e3; subst e3
              rcases hgl2 with h | h
              · exact h4l _ e h
              · have := (h4w _ e).2; omega
            refine ⟨?_, ?_, ?_, ?_, ?_, ?_, ?_⟩
            · have hwg := HGW.out
              have b1 : Below w.heap.size wc w4 := HS4.out.below (fun j hj e => by have := (HOWB.out j e).1; omega) HBC.out.size
              have s1 := HBC.out.size
              have s2 := b1.size
              exact (((HBC.out.trans b1).trans (HB5.out.mono (by omega))).trans (hb6.mono (by omega))).trans (r3.below (fun j hj => ⟨by omega, by omega⟩) (by omega))
            · have e1 : (ps.take (k + 1)).map Pr.kp = wk ++ [x.kp] := by rw [List.take_succ_eq_append_getElem hlt, List.map_append, HWK.out, HXE.out]; rfl
              rw [e1]
              exact (HO4.out.below HB5.out).kept (fun j e => k6 j (by have := (h4w j e).2; omega) (by have := (h4w j e).1; omega) (h4l j e))
            · refine ⟨_, es ++ [⟨I 3, I 0, strV [], vi⟩], r2, ?_, by rw [List.length_append, hel]; rfl, fun i h1 h2 => ?_, h4g⟩
              · have h := own_set (q := ⟨I 3, I 0, strV [], vi⟩) hgl hca hcb hcs hct r1
                rw [List.length_append, List.length_singleton] at h
                exact h
              · by_cases hi : i < es.length
                · rw [List.getElem_append_left hi]
                  refine (HVV4.out i hi h2).kept (fun b g1 g2 g3 g4 => (k6 b (by omega) (by omega) g4).trans (HB5.out.block b g2)) (.inl rfl) ?_
                  rcases hat6 with e | ⟨b, e, hb⟩
                  · exact .inl e
                  · exact .inr ⟨b, e, by omega⟩
                · have hik : i = k := by rw [List.length_append, List.length_singleton] at h1; omega
                  subst hik
                  rw [List.getElem_append_right (by omega), HXE.out]
                  have hq2 : ([⟨I 3, I 0, strV [], vi⟩] : List Quad)[i - es.length]'(by simp; omega) = ⟨I 3, I 0, strV [], vi⟩ := by simp
                  rw [hq2]
                  have hib := HIO.out.base_le
                  refine ⟨vi, qs, rfl, (HIO.out.base_mono (by omega)).kept (fun j e => k6 j (hib j e).2 (by have := (hib j e).1; omega) (fun e2 => by have := hlb j e2; have := (hib j e).1; omega)), HIL.out, HIV.out, fun b e => ⟨fun e2 => by have := (h4w b e2).2; have := (hib b e).1; omega, fun e2 => ?_⟩⟩
                  have e3 : some gl = some b := e2
                  injection e3 with e3; subst e3
                  rcases hgl2 with h | h
                  · have := hlb _ h; have := (hib _ e).1; omega
                  · have := (hib _ e).2; omega
            · rw [HOKS.out, List.drop_eq_getElem_cons hlt, HXE.out]
              show (prOk last x && prsOk (ps.drop (k + 1)) x.kp) = _
              rw [hq]; rfl
            · have := HXR.out.1; omega
            · have := r3.size; omega
            · have hwg := HGW.out
              have kc : ∀ i v, wr.cell? ⟨w.heap.size, i, none⟩ = some v → Wf.cell? ⟨w.heap.size, i, none⟩ = some v := fun i v h => by
                have h1 := keep HBX.out h
                have h2 := HS4.out.cell (a := ⟨w.heap.size, i, none⟩) (fun e => by have := (HOWB.out _ e).1; dsimp only at this; omega) h1
                have h3 := keep HB5.out h2
                have h4 := (hb6.cell (p := ⟨w.heap.size, i, none⟩) (by show w.heap.size < g + 1; omega)).trans h3
                exact r3.cell (a := ⟨w.heap.size, i, none⟩) ⟨by show w.heap.size ≠ gl; omega, by show w.heap.size ≠ g; omega⟩ h4
              exact ⟨kc 1 _ HKEY.out.1, kc 2 _ HKEY.out.2⟩)
          have HSZ : Hid (es.length * 4 + 4 ≤ cur6.size) := Lib.hid (by rw [List.length_append, List.length_singleton] at hca; omega)
          have HGL : Hid (g ≠ gl) := Lib.hid (by omega)
          have hln : (es.length : Int) < ((es.length + 1 : Nat) : Int) := by omega
          have hln2 : es.length < es.length + 1 := by omega
          clear ho6 hb6 hk6 hs6 hat6 hct hca hcb hcs hgl hrow6
          have hrB : Hid ((w6.setCell ⟨g, 10, none⟩ (.slice (some ⟨gl, 0, none⟩) (es.length + 1) cap6)).heap[gl]? = some (.cells cur6 96 (0, 0))) := Lib.hid ((Deep.blk_setCell_other w6 ⟨g, 10, none⟩ _ gl (fun e => HGL.out e.symm)).trans HR6.out)
          refine ⟨rfl, ?_⟩
          (refine Rely.Tg.two (o := ?rlo32) (o' := ?rlp32) 22 27 [23, 27] [22, 23] (by kernel_rfl) ?rle32 ?rlf32 ?rlho32 ?rlhp32 ?rlk32 ?rlm32; (case rle32 => rfl); (case rlf32 => rfl); (case rlho32 => (simp only [List.getElem?_toArray, List.getElem?_cons_succ, List.getElem?_cons_zero]; rfl)); (case rlhp32 => (simp only [List.getElem?_toArray, List.getElem?_cons_succ, List.getElem?_cons_zero]; rfl)))
          · go_wp2
            refine ⟨rfl, ?_⟩
            (refine Rely.Tg.two (o := ?rlo33) (o' := ?rlp33) 23 27 [27] [23] (by kernel_rfl) ?rle33 ?rlf33 ?rlho33 ?rlhp33 ?rlk33 ?rlm33; (case rle33 => rfl); (case rlf33 => rfl); (case rlho33 => (simp only [List.getElem?_toArray, List.getElem?_cons_succ, List.getElem?_cons_zero]; rfl)); (case rlhp33 => (simp only [List.getElem?_toArray, List.getElem?_cons_succ, List.getElem?_cons_zero]; rfl)))
            · go_wp2_with (refine wpList_storeQ rfl _ _ rfl gl (es.length * 4) cur6 _ ⟨I 3, I 0, strV [], vi⟩ rfl rfl HR6.out HSZ.out HONE.out ?_; intro w7 hr7 hs7 hz7; have FF : Hid (LoopI w (w7.setCell ⟨g, 10, none⟩ (.slice (some ⟨gl, 0, none⟩) (es.length + 1) cap6)) g w.heap.size ep vr vo vc (.slice At txt.length ct) (.slice (some ad) ps.length cp) ps (k + 1) x.kp v4) := Lib.hid (HFIN.out _ ((Deep.blk_setCell_other _ ⟨g, 10, none⟩ _ gl (fun e => HGL.out e.symm)).trans hr7.out) (row_set ((hs7.block g (Array.getElem?_eq_some_iff.1 HW6.out).1 HGL.out).trans HW6.out) 10 _) ⟨hs7.os, hs7.tape, hs7.output, (by simp [World.setCell]; omega), fun i h1 hi => (Deep.blk_setCell_other _ ⟨g, 10, none⟩ _ i hi.2).trans (hs7.block i h1 hi.1)⟩); replace d10 := hs7.cell (a := ⟨g, 10, none⟩) HGL.out d10; replace f10 := (hs7.frozen (a := ⟨g, 10, none⟩) HGL.out (Array.getElem?_eq_some_iff.1 HW6.out).1).trans f10; clear hr7 hs7 hz7)
              refine ⟨rfl, ?_⟩
              (refine Rely.Tg.one (o := ?rlo34) 27 [] (by kernel_rfl) ?rle34 ?rlho34 ?rlk34; (case rle34 => rfl); (case rlho34 => (simp only [List.getElem?_toArray, List.getElem?_cons_succ, List.getElem?_cons_zero]; rfl)))
              go_wp2
              refine ⟨rfl, ?_⟩
              refine Rely.Tg.done ?_
              go_wp2
              go_roundw
              case rel => exact ⟨k + 1, by omega, by go_num, rfl, rfl, x.kp, rfl, FF⟩
              case measure => simp [intOf]; omega
            · go_wp2
              refine ⟨rfl, ?_⟩
              (refine Rely.Tg.one (o := ?rlo35) 23 [] (by kernel_rfl) ?rle35 ?rlho35 ?rlk35; (case rle35 => rfl); (case rlho35 => (simp only [List.getElem?_toArray, List.getElem?_cons_succ, List.getElem?_cons_zero]; rfl)))
              go_wp2_with (refine wpList_storeQ rfl _ _ rfl gl (es.length * 4) cur6 _ ⟨I 3, I 0, strV [], vi⟩ rfl rfl hrB.out HSZ.out HONE.out ?_; intro w7 hr7 hs7 hz7; have FF : Hid (LoopI w w7 g w.heap.size ep vr vo vc (.slice At txt.length ct) (.slice (some ad) ps.length cp) ps (k + 1) x.kp v4) := Lib.hid (HFIN.out _ hr7.out ((hs7.block g (by simp [World.setCell]; exact (Array.getElem?_eq_some_iff.1 HW6.out).1) HGL.out).trans (row_set HW6.out 10 _)) ⟨hs7.os, hs7.tape, hs7.output, (by rw [hz7]; simp [World.setCell]), fun i h1 hi => (hs7.block i (by simp [World.setCell]; exact h1) hi.1).trans (Deep.blk_setCell_other w6 ⟨g, 10, none⟩ _ i hi.2)⟩); clear hr7 hs7 hz7)
              refine ⟨rfl, ?_⟩
              refine Rely.Tg.done ?_
              go_wp2
              go_roundw
              case rel => exact ⟨k + 1, by omega, by go_num, rfl, rfl, x.kp, rfl, FF⟩
              case measure => simp [intOf]; omega
          · go_wp2
            refine ⟨rfl, ?_⟩
            (refine Rely.Tg.one (o := ?rlo36) 22 [23] (by kernel_rfl) ?rle36 ?rlho36 ?rlk36; (case rle36 => rfl); (case rlho36 => (simp only [List.getElem?_toArray, List.getElem?_cons_succ, List.getElem?_cons_zero]; rfl)))
            go_wp2
            refine ⟨rfl, ?_⟩
            (refine Rely.Tg.one (o := ?rlo37) 23 [] (by kernel_rfl) ?rle37 ?rlho37 ?rlk37; (case rle37 => rfl); (case rlho37 => (simp only [List.getElem?_toArray, List.getElem?_cons_succ, List.getElem?_cons_zero]; rfl)))
            go_wp2_with (refine wpList_storeQ rfl _ _ rfl gl (es.length * 4) cur6 _ ⟨I 3, I 0, strV [], vi⟩ rfl rfl hrB.out HSZ.out HONE.out ?_; intro w7 hr7 hs7 hz7; have FF : Hid (LoopI w w7 g w.heap.size ep vr vo vc (.slice At txt.length ct) (.slice (some ad) ps.length cp) ps (k + 1) x.kp v4) := Lib.hid (HFIN.out _ hr7.out ((hs7.block g (by simp [World.setCell]; exact (Array.getElem?_eq_some_iff.1 HW6.out).1) HGL.out).trans (row_set HW6.out 10 _)) ⟨hs7.os, hs7.tape, hs7.output, (by rw [hz7]; simp [World.setCell]), fun i h1 hi => (hs7.block i (by simp [World.setCell]; exact h1) hi.1).trans (Deep.blk_setCell_other w6 ⟨g, 10, none⟩ _ i hi.2)⟩); clear hr7 hs7 hz7)
            refine ⟨rfl, ?_⟩
            refine Rely.Tg.done ?_
            go_wp2
            go_roundw
            case rel => exact ⟨k + 1, by omega, by go_num, rfl, rfl, x.kp, rfl, FF⟩
            case measure => simp [intOf]; omega
    · obtain ⟨hbel, hwho, ⟨vl, es, hWB, hOL, hel, hVV, hdis⟩, hoks, hlst, hsiz, hkey⟩ := hli.out
      obtain rfl : k = ps.length := by omega
      have hpo : prsOk ps (-1) = true := by rw [hoks, List.drop_length]; rfl
      rw [List.take_length] at hwho
      have HWO := Lib.hid (prsOk_who ps (-1) (Int.le_refl _) hpo)
      have HINT := Lib.hid (hwho.ints (by rw [List.length_map]; have := HPL.out; omega))
      obtain ⟨Aw, cw, hvw⟩ := hwho.shape
      rw [List.length_map] at hvw
      subst hvw
      obtain ⟨c1, c2⟩ := hkey
      have HBEL := Lib.hid hbel
      have HIN : Hid (LoopI w wr g w.heap.size ep vr vo vc (.slice At txt.length ct) (.slice Ap ps.length cp) ps ps.length last (.slice Aw ps.length cw)) := hli
      have HPO := Lib.hid hpo
      clear hbel hwho hWB hOL hel hVV hdis hoks hlst hsiz hpo hli hlt hk
      go_wp2_with fail
      refine (accepts_any vr vo _ rows owners (ps.map Pr.kp) wr (HR0.out.below HBEL.out) (HO0.out.below HBEL.out) HINT.out Q1.out HWO.out).mono ?_
      rintro r w5 ⟨vy, rfl, hvy, hown, hb5⟩
      have HB5 : Hid (Below w.heap.size w w5) := Lib.hid (HBEL.out.trans (hb5.mono HBEL.out.size))
      have HB5' := Lib.hid hb5
      have HVY := Lib.hid hvy
      have HOWY : Hid (∀ k, vy.ownBlock = some k → wr.heap.size ≤ k) := Lib.hid hown
      clear hb5 hvy c1 c2 hown
      cases hacc : accB rows owners (ps.map Pr.kp) with
      | false =>
        have HBAD : Hid (goodB rows owners ps = false) := Lib.hid (by unfold goodB; rw [hacc]; simp)
        go_wp2
        go_ret2
        exact ⟨.inl ⟨HBAD.out, rfl⟩, HB5.out⟩
      | true =>
        by_cases hz : ps.length = 0
        · have HBAD : Hid (goodB rows owners ps = false) := Lib.hid (by unfold goodB; rw [hz]; simp)
          have hz2 : ((ps.length : Int) == 0) = true := beq_iff_eq.2 (by omega)
          clear hz
          go_wp2
          go_ret2
          exact ⟨.inl ⟨HBAD.out, rfl⟩, HB5.out⟩
        · have HGOOD : Hid (goodB rows owners ps = true) := Lib.hid (by unfold goodB; rw [HPO.out, hacc]; simp; omega)
          have hz2 : ((ps.length : Int) == 0) = false := beq_eq_false_iff_ne.2 (by omega)
          have HZ : Hid (0 < ps.length) := Lib.hid (by omega)
          have HACC := Lib.hid hacc
          clear hz hacc
          obtain ⟨_, _, ⟨vl, es, hWB, hOL, hel, hVV, _⟩, _, _, hsiz, _⟩ := HIN.out
          have hW5 : WorkB w5 g ep vr vo vc (.slice At txt.length ct) (.slice Ap ps.length cp) (.slice none 0 0) vl 0 0 := hWB.below HB5'.out
          have HMEM := Lib.hid (prsOk_mem ps (-1) (Int.le_refl _) HPO.out)
          have HVAL : Hid (∀ Wx : World, (∀ b, g + 1 ≤ b → b < wr.heap.size → Wx.heap[b]? = wr.heap[b]?) → ValV Wx (allV ps) (.agg #[I 3, I 0, strV [], vl])) := Lib.hid (fun Wx hx =>
            valAll (hOL.kept fun b e => hx b (hOL.base_le b e).1 (hOL.base_le b e).2) hel HPL.out (fun i h1 h2 => (hVV i h1 h2).kept (fun b g1 g2 _ _ => hx b g1 g2) (.inl rfl) (.inl rfl)))
          obtain ⟨c0, cs, hcc, hcv⟩ := HCS.out
          have HC0' : Hid (Ints w vc (c0 :: cs)) := Lib.hid (by have h := HC0.out; rwa [hcc] at h)
          have HHD : Hid (commits.headD 0 = c0) := Lib.hid (by rw [hcc]; rfl)
          have HCV := Lib.hid hcv
          have HSZ5 : Hid (g + 1 ≤ wr.heap.size ∧ wr.heap.size ≤ w5.heap.size) := Lib.hid ⟨hsiz, HB5'.out.size⟩
          have HGW' : Hid (w.heap.size ≤ g) := Lib.hid (by have := HGW.out; omega)
          have HVY5 := Lib.hid (HVY.out HACC.out)
          obtain ⟨Ay, cy, hvyE, hmy⟩ := HVY5.out.shape
          subst hvyE
          generalize hny : (accY rows owners (ps.map Pr.kp)).length = ny at *
          have HNG : Hid (∀ k, (Value.slice Ay ny cy).ownBlock = some k → k ≠ g) := Lib.hid (fun k e h => by have := HOWY.out k e; have := hsiz; omega)
          have HOW9 : Hid (∀ k, (Value.slice Ay ny cy).ownBlock = some k → w.heap.size ≤ k) := Lib.hid (fun k e => by have h1 := HOWY.out k e; have h2 := HSZ5.out.1; have h3 := HGW.out; omega)
          clear HVY HOWY hny
          obtain ⟨wA, hwA⟩ : ∃ wA, w5.setCell ⟨g, 6, none⟩ (.slice Ay ny cy) = wA := ⟨_, rfl⟩
          have HWA : Hid (WorkB wA g ep vr vo vc (.slice At txt.length ct) (.slice Ap ps.length cp) (.slice Ay ny cy) vl 0 0) := Lib.hid (by rw [← hwA]; exact row_set hW5 6 (.slice Ay ny cy))
          have HBA : Hid (Below w.heap.size w wA) := Lib.hid (by rw [← hwA]; exact HB5.out.setCell HGW'.out (.slice Ay ny cy))
          have HKA : Hid (∀ b, b < wr.heap.size → b ≠ g → wA.heap[b]? = wr.heap[b]?) := Lib.hid (fun b h1 h2 => by rw [← hwA]; exact (Deep.blk_setCell_other w5 ⟨g, 6, none⟩ (.slice Ay ny cy) b h2).trans (HB5'.out.block b h1))
          have HVA : Hid (Ints wA (.slice Ay ny cy) (accY rows owners (ps.map Pr.kp))) := Lib.hid (HVY5.out.far fun k e => by rw [← hwA]; exact Deep.blk_setCell_other w5 ⟨g, 6, none⟩ (.slice Ay ny cy) k (HNG.out k e))
          have HSA : Hid (wr.heap.size ≤ wA.heap.size) := Lib.hid (by rw [← hwA]; simpa [World.setCell] using HSZ5.out.2)
          have d6 : w5.cell? ⟨g, 6, none⟩ = some (.slice none 0 0) := by rw [cell_of_row w5 g 6 _ _ (0, 0) hW5]; rfl
          have f6 : w5.frozen? ⟨g, 6, none⟩ = false := by unfold World.frozen?; rw [hW5]; rfl
          clear hWB hOL hel hVV hcc hcv hW5 hmy
          go_upto_region 26 with (fail)
          clear hwA d6 f6
          have HRA : Hid (WorkR wA g c0 txt (allV ps)) := Lib.hid (HWA.out.read (HC0'.out.below HBA.out) HCV.out (HT0.out.below HBA.out) HTL.out (HVAL.out wA fun b h1 h2 => HKA.out b h2 (by omega)) (allV_size HPL.out HMEM.out))
          go_wp2_with fail
          refine (points_any g c0 txt (allV ps) _ ps wA (HP0.out.below HBA.out) HRA.out (HG0.out.below HBA.out) (fun x hx => by have := (HMEM.out x hx).1; omega)).mono ?_
          rintro r w6 ⟨rfl, hb6⟩
          have HW6 : Hid (WorkB w6 g ep vr vo vc (.slice At txt.length ct) (.slice Ap ps.length cp) (.slice Ay ny cy) vl 0 0) := Lib.hid (HWA.out.below hb6)
          have HV6 := Lib.hid (HVA.out.below hb6)
          have HB6 : Hid (Below w.heap.size w w6) := Lib.hid (HBA.out.trans (hb6.mono HBA.out.size))
          have HK6 : Hid (∀ b, b < wr.heap.size → b ≠ g → w6.heap[b]? = wr.heap[b]?) := Lib.hid (fun b h1 h2 => (hb6.block b (Nat.lt_of_lt_of_le h1 HSA.out)).trans (HKA.out b h1 h2))
          have HPT : Hid (0 ≤ prodP (nonceN c0 txt (allV ps)) ps ∧ prodP (nonceN c0 txt (allV ps)) ps < 2147483579) := Lib.hid (prodP_range _ ps 1 (by decide) (by decide))
          obtain ⟨pt, hpt⟩ : ∃ pt, prodP (nonceN c0 txt (allV ps)) ps = pt := ⟨_, rfl⟩
          rw [hpt] at HPT ⊢
          have HEP := Lib.hid hpt
          have HSQ : Hid (wr.heap.size ≤ w6.heap.size) := Lib.hid (Nat.le_trans HSA.out hb6.size)
          clear hb6 hpt HVA HKA HSA HRA
          obtain ⟨wB, hwB⟩ : ∃ wB, w6.setCell ⟨g, 11, none⟩ (I pt) = wB := ⟨_, rfl⟩
          have HWB : Hid (WorkB wB g ep vr vo vc (.slice At txt.length ct) (.slice Ap ps.length cp) (.slice Ay ny cy) vl pt 0) := Lib.hid (by rw [← hwB]; exact row_set HW6.out 11 (I pt))
          have HBB : Hid (Below w.heap.size w wB) := Lib.hid (by rw [← hwB]; exact HB6.out.setCell HGW'.out (I pt))
          have HKB : Hid (∀ b, b < wr.heap.size → b ≠ g → wB.heap[b]? = wr.heap[b]?) := Lib.hid (fun b h1 h2 => by rw [← hwB]; exact (Deep.blk_setCell_other w6 ⟨g, 11, none⟩ (I pt) b h2).trans (HK6.out b h1 h2))
          have HSB : Hid (wr.heap.size ≤ wB.heap.size) := Lib.hid (by rw [← hwB]; simpa [World.setCell] using HSQ.out)
          have HVB : Hid (Ints wB (.slice Ay ny cy) (accY rows owners (ps.map Pr.kp))) := Lib.hid (HV6.out.far fun k e => by rw [← hwB]; exact Deep.blk_setCell_other w6 ⟨g, 11, none⟩ (I pt) k (HNG.out k e))
          have d11 : w6.cell? ⟨g, 11, none⟩ = some (I 0) := by rw [cell_of_row w6 g 11 _ _ (0, 0) HW6.out]; rfl
          have f11 : w6.frozen? ⟨g, 11, none⟩ = false := by unfold World.frozen?; rw [HW6.out]; rfl
          go_upto_region 27 with (fail)
          clear hwB d11 f11
          obtain ⟨Ac, cc, rfl, hmc⟩ := HC0'.out.shape
          obtain ⟨adc, rfl, ec⟩ := (HC0'.out.below HBB.out).at 0 (by simp)
          rw [List.getElem_cons_zero, show adc.add 0 = adc by simp [Addr.add]] at ec
          have hlc : 0 < (c0 :: cs).length := by simp
          have e3 : wB.cell? ⟨g, 3, none⟩ = some (.slice (some adc) (c0 :: cs).length cc) := by rw [cell_of_row wB g 3 _ _ (0, 0) HWB.out]; rfl
          have e11 : wB.cell? ⟨g, 11, none⟩ = some (I pt) := by rw [cell_of_row wB g 11 _ _ (0, 0) HWB.out]; rfl
          have HTB := Lib.hid (HT0.out.below HBB.out)
          have HGB2 := Lib.hid (HG0.out.below HBB.out)
          generalize hncc : (c0 :: cs).length = nc at *
          have HNCC := Lib.hid hncc
          have HCR : Hid (0 ≤ c0 ∧ c0 < 4611686018427387904) := Lib.hid (by have := vld_range HCV.out; omega)
          have HLE : Hid ((encVal (.list ((chIts pt c0 txt).map Item.toVal))).length ≤ 70368744177664) := Lib.hid (by
            have k1 := enc_int_len (n := pt) (by have := HPT.out; omega)
            have k2 := enc_int_len HCR.out.2
            have k3 := enc_text_len (s := txt) (by have := HTL.out; omega)
            have k4 := enc_list_len (l := (chIts pt c0 txt).map Item.toVal) (show 3 ≤ 16000 by decide)
            have := HTL.out
            refine Nat.le_trans k4 ?_
            simp only [chIts, List.map_cons, List.map_nil, Item.toVal, encVals, List.length_append, List.length_nil]
            omega)
          clear hncc hmc
          refine Rely.regionB _ _ (by kernel_rfl) [0,1,2,3,4,5,6,7,8,9,10,11,12,13,14,15] [16,17] [18,19,20] (CV pt c0 txt) (fun _ => True) (by kernel_rfl) (fun _ _ => trivial) ?_
          (refine Rely.Fx.run ?rlc38 rfl rfl (fun _ _ => ?rlh38) ?rlk38; (case rlh38 => (go_simp; try rfl)); go_simp)
          (refine Rely.Fx.run ?rlc39 rfl rfl (fun _ _ => ?rlh39) ?rlk39; (case rlh39 => (go_simp; try rfl)); go_simp)
          (refine Rely.Fx.run ?rlc40 rfl rfl (fun _ _ => ?rlh40) ?rlk40; (case rlh40 => (go_simp; try rfl)); go_simp)
          (refine Rely.Fx.run ?rlc41 rfl rfl (fun _ _ => ?rlh41) ?rlk41; (case rlh41 => (go_simp; try rfl)); go_simp)
          (refine Rely.Fx.load ?rlc42 rfl (by kernel_rfl) rfl (Rely.Stab.refl _ _ _) (fun _ hb => ?rlh42) ?rlk42; (case rlh42 => (have hrl := (hb.cell (cell_old e11)).trans e11; go_simp; try rfl)); go_simp)
          (refine Rely.Fx.run ?rlc43 rfl rfl (fun _ _ => ?rlh43) ?rlk43; (case rlh43 => (go_simp; try rfl)); go_simp)
          (refine Rely.Fx.run ?rlc44 rfl rfl (fun _ _ => ?rlh44) ?rlk44; (case rlh44 => (go_simp; try rfl)); go_simp)
          (refine Rely.Fx.run ?rlc45 rfl rfl (fun _ _ => ?rlh45) ?rlk45; (case rlh45 => (go_simp; try rfl)); go_simp)
          (refine Rely.Fx.run ?rlc46 rfl rfl (fun _ _ => ?rlh46) ?rlk46; (case rlh46 => (go_simp; try rfl)); go_simp)
          (refine Rely.Fx.run ?rlc47 rfl rfl (fun _ _ => ?rlh47) ?rlk47; (case rlh47 => (go_simp; try rfl)); go_simp)
          (refine Rely.Fx.load ?rlc48 rfl (by kernel_rfl) rfl (Rely.Stab.refl _ _ _) (fun _ hb => ?rlh48) ?rlk48; (case rlh48 => (have hrl := (hb.cell (cell_old e3)).trans e3; go_simp; try rfl)); go_simp)
          (refine Rely.Fx.run ?rlc49 rfl rfl (fun _ _ => ?rlh49) ?rlk49; (case rlh49 => (go_simp; try rfl)); go_simp)
          (refine Rely.Fx.load ?rlc50 rfl (by kernel_rfl) rfl (Rely.Stab.refl _ _ _) (fun _ hb => ?rlh50) ?rlk50; (case rlh50 => (have hrl := (hb.cell (cell_old ec)).trans ec; go_simp; try rfl)); go_simp)
          (refine Rely.Fx.run ?rlc51 rfl rfl (fun _ _ => ?rlh51) ?rlk51; (case rlh51 => (go_simp; try rfl)); go_simp)
          (refine Rely.Fx.run ?rlc52 rfl rfl (fun _ _ => ?rlh52) ?rlk52; (case rlh52 => (go_simp; try rfl)); go_simp)
          (refine Rely.Fx.run ?rlc53 rfl rfl (fun _ _ => ?rlh53) ?rlk53; (case rlh53 => (go_simp; try rfl)); go_simp)
          refine Rely.Fx.done ?_
          (refine Rely.Lt.step (o := ?rlo54) 156 ?rlho54 ?rlhd54 (by simp) ?rlh54 ?rlk54; (case rlho54 => (simp only [List.getElem?_toArray, List.getElem?_cons_succ, List.getElem?_cons_zero]; rfl)); (case rlhd54 => rfl))
          · intro w' hb hp
            clear hp
            go_wp2
            exact ⟨_, rfl, Items.new (w := w') [.iface 3 (I pt), .iface 3 (I c0), .iface 28 (.slice At txt.length ct)] (chIts pt c0 txt) _ rfl (show 3 ≤ 1000 by decide) (fun i j1 j2 => by
                have : i = 0 ∨ i = 1 ∨ i = 2 := by simp at j1; omega
                rcases this with rfl | rfl | rfl
                · exact .int _ HPT.out.1 (by have := HPT.out.2; omega)
                · exact .int _ HCR.out.1 HCR.out.2
                · exact .bytes _ _ (HTB.out.below hb)), hb.alloc hb.size _, fun j _ _ u hu => CV.below ((Below.refl _ _).alloc (Nat.le_refl _) _) j u hu⟩
          intro v16
          go_simp
          (refine Rely.Lt.step (o := ?rlo55) 157 ?rlho55 ?rlhd55 (by simp) ?rlh55 ?rlk55; (case rlho55 => (simp only [List.getElem?_toArray, List.getElem?_cons_succ, List.getElem?_cons_zero]; rfl)); (case rlhd55 => rfl))
          · intro w' hb hp
            have hi : CV pt c0 txt 16 v16 w' := hp.get 16 v16 (by simp) (by kernel_rfl)
            clear hp
            go_wp2_with fail
            refine (phash_any signTag v16 (chIts pt c0 txt) w' hi (HGB2.out.below hb) (show 3 ≤ 1000 by decide) HLE.out (show 1 ≤ 16 by decide) (by decide)).mono ?_
            rintro r w3 ⟨rfl, hb3⟩
            go_wp2
            exact ⟨_, rfl, rfl, hb.trans (hb3.mono hb.size), fun j _ _ u hu => CV.below hb3 j u hu⟩
          intro v17
          go_simp
          refine Rely.Lt.done ?_
          intro w8 hb hp
          obtain rfl : v17 = I (hashN signTag (encVal (.list [.int pt, .int c0, .text txt])) : Int) := hp.one
          obtain ⟨ch, hch⟩ : ∃ ch, (hashN signTag (encVal (.list [.int pt, .int c0, .text txt])) : Int) = ch := ⟨_, rfl⟩
          rw [hch]
          have HW8 : Hid (WorkB w8 g ep vr vo (.slice (some adc) nc cc) (.slice At txt.length ct) (.slice Ap ps.length cp) (.slice Ay ny cy) vl pt 0) := Lib.hid (HWB.out.below hb)
          have HV8 := Lib.hid (HVB.out.below hb)
          have HB8 : Hid (Below w.heap.size w w8) := Lib.hid (HBB.out.trans (hb.mono HBB.out.size))
          obtain ⟨wC, hwC⟩ : ∃ wC, w8.setCell ⟨g, 12, none⟩ (I ch) = wC := ⟨_, rfl⟩
          have HWC : Hid (WorkB wC g ep vr vo (.slice (some adc) nc cc) (.slice At txt.length ct) (.slice Ap ps.length cp) (.slice Ay ny cy) vl pt ch) := Lib.hid (by rw [← hwC]; exact row_set HW8.out 12 (I ch))
          have HBC : Hid (Below w.heap.size w wC) := Lib.hid (by rw [← hwC]; exact HB8.out.setCell HGW'.out (I ch))
          have HKC : Hid (∀ b, b < wr.heap.size → b ≠ g → wC.heap[b]? = wr.heap[b]?) := Lib.hid (fun b h1 h2 => by rw [← hwC]; exact (Deep.blk_setCell_other w8 ⟨g, 12, none⟩ (I ch) b h2).trans ((hb.block b (Nat.lt_of_lt_of_le h1 HSB.out)).trans (HKB.out b h1 h2)))
          have HSC : Hid (wr.heap.size ≤ wC.heap.size) := Lib.hid (by rw [← hwC]; have h1 := hb.size; have h2 := HSB.out; simp [World.setCell]; omega)
          have HVC : Hid (Ints wC (.slice Ay ny cy) (accY rows owners (ps.map Pr.kp))) := Lib.hid (HV8.out.far fun k e => by rw [← hwC]; exact Deep.blk_setCell_other w8 ⟨g, 12, none⟩ (I ch) k (HNG.out k e))
          have d12 : w8.cell? ⟨g, 12, none⟩ = some (I 0) := by rw [cell_of_row w8 g 12 _ _ (0, 0) HW8.out]; rfl
          have f12 : w8.frozen? ⟨g, 12, none⟩ = false := by unfold World.frozen?; rw [HW8.out]; rfl
          have HCH := Lib.hid hch
          clear hch hb hp e3 e11 ec hlc
          (refine Rely.Tl.step (o := ?rlo56) ?rlho56 ?rlk56; (case rlho56 => (simp only [List.getElem?_toArray, List.getElem?_cons_succ, List.getElem?_cons_zero]; rfl)))
          go_wp2
          refine ⟨rfl, ?_⟩
          (refine Rely.Tl.step (o := ?rlo57) ?rlho57 ?rlk57; (case rlho57 => (simp only [List.getElem?_toArray, List.getElem?_cons_succ, List.getElem?_cons_zero]; rfl)))
          go_wp2
          refine ⟨rfl, ?_⟩
          (refine Rely.Tl.last (o := ?rlo58) ?rlho58 ?rlk58; (case rlho58 => (simp only [List.getElem?_toArray, List.getElem?_cons_succ, List.getElem?_cons_zero]; rfl)))
          go_wp2
          refine ⟨rfl, ?_⟩
          go_wp2
          go_ret2
          refine ⟨.inr ⟨HGOOD.out, g, .slice Ay ny cy, vl, rfl, HGW'.out, ⟨HVC.out, HOW9.out⟩, (fun Wx hx => HVAL.out Wx fun b h1 h2 => (hx b (by have := HGW.out; omega) (Nat.lt_of_lt_of_le h2 HSC.out)).trans (HKC.out b h2 (by omega))), ?_⟩, HBC.out⟩
          rw [HHD.out, HEP.out, HCH.out]
          have h := HWC.out
          rw [← HNCC.out] at h
          exact h

end Go.Proofs.YtgacdmkhgllceaaGreatDoor
