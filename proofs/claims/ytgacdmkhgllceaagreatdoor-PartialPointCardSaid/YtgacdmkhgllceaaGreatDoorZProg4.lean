/- program.question walked. -/
import Derived.Test.YtgacdmkhgllceaaGreatDoorZProg3
import Derived.Test.YtgacdmkhgllceaaGreatDoorZSlices2
import Derived.Test.YtgacdmkhgllceaaGreatDoorZApp
import Derived.Test.YtgacdmkhgllceaaGreatDoorZLin6
namespace Go.Proofs.YtgacdmkhgllceaaGreatDoor
open Go.RowKit Go.Shelf
attribute [local go_sem] Oper.semAt_some

/-- Are people named in order? -/
def whoOk : List Int → Int → Bool
  | [], _ => true
  | n :: l, last => isP n && (decide (last < n) && whoOk l n)

theorem whoOk_incr : ∀ (l : List Int) (last : Int), whoOk l last = true → Incr l ∧ ∀ j, (h : j < l.length) → last < l[j]
  | [], _, _ => ⟨fun i j _ hj => by simp at hj, fun j h => by simp at h⟩
  | n :: l, last, h => by
    simp only [whoOk, Bool.and_eq_true, decide_eq_true_eq] at h
    obtain ⟨h1, h2⟩ := whoOk_incr l n h.2.2
    refine ⟨fun i j hij hj => ?_, fun j hj => ?_⟩
    · cases j with
      | zero => omega
      | succ j =>
        cases i with
        | zero => simpa using h2 j (by simpa using hj)
        | succ i => simpa using h1 i j (by omega) (by simpa using hj)
    · cases j with
      | zero => simpa using h.2.1
      | succ j =>
        have := h2 j (by simpa using hj)
        simp only [List.getElem_cons_succ]; omega

theorem whoOk_drop {who : List Int} {last : Int} {k : Nat} (hk : k < who.length) : whoOk (who.drop k) last = (isP who[k] && (decide (last < who[k]) && whoOk (who.drop (k + 1)) who[k])) := by
  rw [List.drop_eq_getElem_cons hk]; rfl

/-- The places of people's rows. -/
def placesOf (owners who : List Int) (n : Nat) : List Nat := (List.range n).filter fun i => hasI who (owners.getD i 0)
/-- People's rows. -/
def rowsOf (rows : List (List Int)) (owners who : List Int) : List (List Int) := (placesOf owners who rows.length).map fun i => rows.getD i []
/-- What the rows have to make. -/
def targetOf (rows : List (List Int)) : List Int := (List.range (cols rows)).map fun j => if j = 0 then 1 else 0

theorem ownL_fst (vs : Nat → Value) (owners who : List Int) (n : Nat) : (ownL vs owners who n).map (·.1) = placesOf owners who n := by
  unfold ownL placesOf; rw [List.map_map]
  generalize List.filter _ _ = l
  induction l with
  | nil => rfl
  | cons a l ih => simpa using ih
theorem ownL_snd (vs : Nat → Value) (owners who : List Int) (n : Nat) : (ownL vs owners who n).map (·.2) = (placesOf owners who n).map vs := by
  unfold ownL placesOf; rw [List.map_map]; rfl

/-- The raw elements of a list of lists. -/
theorem Rows2.vals {w : World} {A : Option Addr} {n c : Nat} {xs : List (List Int)} (h : Rows2 w (.slice A n c) xs) : ∃ vs : Nat → Value, ∀ i, (hi : i < xs.length) → ∃ ad, A = some ad ∧ w.cell? (ad.add i) = some (vs i) ∧ Ints w (vs i) xs[i] := by
  have : ∀ i : Nat, ∃ v, ∀ hi : i < xs.length, ∃ ad, A = some ad ∧ w.cell? (ad.add i) = some v ∧ Ints w v xs[i] := fun i => by
    by_cases hi : i < xs.length
    · obtain ⟨ad, v, h1, h2, h3⟩ := h.at i hi
      exact ⟨v, fun _ => ⟨ad, h1, h2, h3⟩⟩
    · exact ⟨undef, fun h => absurd h hi⟩
  exact ⟨fun i => Classical.choose (this i), fun i hi => Classical.choose_spec (this i) hi⟩

/-- A slice as it is. -/
abbrev encV (v : Value) : List Value := [v]

/-- What the loop over people's rows holds. -/
structure QI (b4 b5 base : Nat) (xs : List (Nat × Value)) (vr va : Value) (W : World) : Prop where
  c4 : W.cell? ⟨b4, 0, none⟩ = some vr
  f4 : W.frozen? ⟨b4, 0, none⟩ = false
  c5 : W.cell? ⟨b5, 0, none⟩ = some va
  f5 : W.frozen? ⟨b5, 0, none⟩ = false
  o4 : OwnOf 23 1 encV W base vr (xs.map (·.2))
  o5 : OwnOf 3 1 encI W base va (xs.map fun x => (x.1 : Int))

/-- Rows of two types share no block. -/
theorem own_apart {α β : Type} {e e' sz sz' : Nat} {enc : α → List Value} {enc' : β → List Value} {W : World} {b b' : Nat} {v v' : Value} {xs : List α} {ys : List β} (h : OwnOf e sz enc W b v xs) (h' : OwnOf e' sz' enc' W b' v' ys) (hne : e ≠ e') (g : Nat) (h1 : v.ownBlock = some g) : v'.ownBlock ≠ some g := by
  intro h2
  rcases h.2 with ⟨e1, _⟩ | ⟨g1, cap, cur, e1, _, h3, _⟩
  · rw [e1] at h1; simp [Value.ownBlock] at h1
  · rcases h'.2 with ⟨e2, _⟩ | ⟨g2, cap2, cur2, e2, _, h4, _⟩
    · rw [e2] at h2; simp [Value.ownBlock] at h2
    · rw [e1] at h1; rw [e2] at h2
      simp [Value.ownBlock] at h1 h2
      subst h1 h2
      rw [h3] at h4
      simp only [Option.some.injEq, Obj.cells.injEq] at h4
      exact hne h4.2.1

theorem QI.same {b4 b5 base : Nat} {xs : List (Nat × Value)} {vr va : Value} {A B : World} (h : QI b4 b5 base xs vr va A) {K : Nat → Prop} (hs : Same K A B) (h4 : K b4) (h5 : K b5) (hr : ∀ g, vr.ownBlock = some g → K g) (ha : ∀ g, va.ownBlock = some g → K g) : QI b4 b5 base xs vr va B :=
  ⟨hs.cell h4 h.c4, (hs.frozen (a := ⟨b4, 0, none⟩) h4 (cell_old h.c4)).trans h.f4, hs.cell h5 h.c5, (hs.frozen (a := ⟨b5, 0, none⟩) h5 (cell_old h.c5)).trans h.f5,
    h.o4.kept fun g hg => hs.block g (h.o4.base_le g hg).2 (hr g hg), h.o5.kept fun g hg => hs.block g (h.o5.base_le g hg).2 (ha g hg)⟩

/-- What the region of the two appends may do ahead of its tail. -/
def QA (base : Nat) (xs : List (Nat × Value)) (vr : Value) (W W' : World) : Prop := Same (fun k => vr.ownBlock ≠ some k) W W' ∧ OwnOf 23 1 encV W' base vr (xs.map (·.2))
/-- What is told of its letters. -/
def QV (base : Nat) (xs : List (Nat × Value)) (vr : Value) (k : Nat) (row : Value) (W : World) : Nat → Value → World → Prop
  | 2, v, w => ∃ nb, v = .slice (some ⟨nb, 0, none⟩) 1 1 ∧ W.heap.size ≤ nb ∧ w.heap[nb]? = some (.cells #[row] 23 (0, 0))
  | 6, v, w => ∃ nb, v = .slice (some ⟨nb, 0, none⟩) 1 1 ∧ W.heap.size ≤ nb ∧ w.heap[nb]? = some (.cells #[I k] 3 (0, 0))
  | 3, v, w => OwnOf 23 1 encV w base v (xs.map (·.2) ++ [row]) ∧ (v.ownBlock = vr.ownBlock ∨ ∃ g, v.ownBlock = some g ∧ W.heap.size ≤ g)
  | _, _, _ => True

theorem QA.below {base : Nat} {xs : List (Nat × Value)} {vr : Value} {W w w' : World} (h : QA base xs vr W w) (hb : Below w.heap.size w w') : QA base xs vr W w' :=
  ⟨h.1.trans (Same.of_below hb fun _ h _ => h), h.2.below hb⟩
theorem QA.alloc {base : Nat} {xs : List (Nat × Value)} {vr : Value} {W w : World} (h : QA base xs vr W w) (o : Obj) : QA base xs vr W (w.alloc o) := h.below ((Below.refl _ _).alloc (Nat.le_refl _) _)
theorem QV.alloc {base : Nat} {xs : List (Nat × Value)} {vr : Value} {k : Nat} {row : Value} {W w w' : World} (hb : Below w.heap.size w w') : ∀ (j : Nat) (u : Value), QV base xs vr k row W j u w → QV base xs vr k row W j u w' := by
  intro j u h
  unfold QV at *
  split at h
  · obtain ⟨nb, e, h1, h2⟩ := h; exact ⟨nb, e, h1, (hb.block nb (Array.getElem?_eq_some_iff.1 h2).1).trans h2⟩
  · obtain ⟨nb, e, h1, h2⟩ := h; exact ⟨nb, e, h1, (hb.block nb (Array.getElem?_eq_some_iff.1 h2).1).trans h2⟩
  · exact ⟨h.1.below hb, h.2⟩
  · trivial
theorem QV.far {base : Nat} {xs : List (Nat × Value)} {vr : Value} {k : Nat} {row : Value} {W w w' : World} (hlt : ∀ g, vr.ownBlock = some g → g < W.heap.size) (hs : ∀ g, g < w.heap.size → vr.ownBlock ≠ some g → w'.heap[g]? = w.heap[g]?) : ∀ (j : Nat) (u : Value), j ≠ 3 → QV base xs vr k row W j u w → QV base xs vr k row W j u w' := by
  intro j u hj h
  unfold QV at *
  split at h
  · obtain ⟨nb, e, h1, h2⟩ := h; exact ⟨nb, e, h1, (hs nb (Array.getElem?_eq_some_iff.1 h2).1 (fun e => by have := hlt nb e; omega)).trans h2⟩
  · obtain ⟨nb, e, h1, h2⟩ := h; exact ⟨nb, e, h1, (hs nb (Array.getElem?_eq_some_iff.1 h2).1 (fun e => by have := hlt nb e; omega)).trans h2⟩
  · exact absurd rfl hj
  · trivial

/-- The world behind the parameter's box and the two results' cells. -/
theorem three_below (w : World) (cs : Array Value) (t1 t2 t3 : TypeId) (b c : Value) : Below w.heap.size w (((w.alloc (.cells cs t1)).alloc (.cells #[b] t2)).alloc (.cells #[c] t3)) :=
  (((Below.refl _ w).alloc (Nat.le_refl _) _).alloc (by simp) _).alloc (by simp; omega) _

theorem three_cells (w : World) (x y b c : Value) (t1 t2 t3 : TypeId) :
    let W := ((w.alloc (.cells #[x, y] t1)).alloc (.cells #[b] t2)).alloc (.cells #[c] t3)
    (W.cell? ⟨w.heap.size, 0, none⟩ = some x ∧ W.cell? ⟨w.heap.size, 1, none⟩ = some y) ∧ (W.cell? ⟨w.heap.size + 1, 0, none⟩ = some b ∧ W.frozen? ⟨w.heap.size + 1, 0, none⟩ = false) ∧ (W.cell? ⟨w.heap.size + 1 + 1, 0, none⟩ = some c ∧ W.frozen? ⟨w.heap.size + 1 + 1, 0, none⟩ = false) := by
  intro W
  have h1 : (w.alloc (.cells #[x, y] t1)).cell? ⟨w.heap.size, 0, none⟩ = some x := by rw [World.cell?_alloc_new]; rfl
  have h2 : (w.alloc (.cells #[x, y] t1)).cell? ⟨w.heap.size, 1, none⟩ = some y := by rw [World.cell?_alloc_new]; rfl
  exact ⟨⟨keepA _ (keepA _ h1), keepA _ (keepA _ h2)⟩, old_cell (.cells #[c] t3) (new_cell (w.alloc (.cells #[x, y] t1)) b t2 (w.heap.size + 1) (by simp)), new_cell ((w.alloc (.cells #[x, y] t1)).alloc (.cells #[b] t2)) c t3 (w.heap.size + 1 + 1) (by simp)⟩

set_option maxRecDepth 100000 in
set_option maxHeartbeats 1000000 in
/-- question refuses a wrong program. -/
theorem question_bad (vr vo vw : Value) (rows : List (List Int)) (owners : List Int) (w : World) (hr : Rows2 w vr rows) (ho : Ints w vo owners) (hw : ∃ A n c, vw = .slice A n c) (h0 : progErr rows owners ≠ 0) :
    Calls Tryz.prog 143 #[.agg #[vr, vo], vw] w fun e w' => e = .returned (.tuple #[.slice none 0 0, .slice none 0 0, .slice none 0 0, I (progErr rows owners)]) ∧ Below w.heap.size w w' := by
  obtain ⟨A, ca, rfl, hma⟩ := hr.shape
  obtain ⟨B, cb, rfl, hmb⟩ := ho.shape
  obtain ⟨C, nc, cc, rfl⟩ := hw
  have g0 : (progErr rows owners != 0) = true := bne_iff_ne.2 h0
  have HR := Lib.hid hr
  have HO := Lib.hid ho
  clear hr ho h0
  go_enter Tryz.func143, Tryz.ntmps143
  go_wp2_with fail
  have hbel := three_below w #[.slice A rows.length ca, .slice B owners.length cb] 25 22 23 (.slice none 0 0) (.slice none 0 0)
  obtain ⟨_, hk4, hk5⟩ := three_cells w (.slice A rows.length ca) (.slice B owners.length cb) (.slice none 0 0) (.slice none 0 0) 25 22 23
  have HBEL := Lib.hid hbel
  refine (progCheck_any _ _ rows owners _ (Sl.stays RowE.stays (Below.old hbel) HR.out) (Sl.stays IntE.stays (Below.old hbel) HO.out)).mono ?_
  rintro e w1 ⟨rfl, hb1⟩
  obtain ⟨c4, f4⟩ := keep2 hb1 hk4
  obtain ⟨c5, f5⟩ := keep2 hb1 hk5
  have HB1 := Lib.hid (below_step HBEL.out hb1)
  have d4 := set_same (v := .slice none 0 0) c4
  have d5 : (w1.setCell ⟨w.heap.size + 1, 0, none⟩ (.slice none 0 0)).cell? ⟨w.heap.size + 1 + 1, 0, none⟩ = some (.slice none 0 0) := set_far (by dsimp only; omega) c5
  have e5 := set_same (v := .slice none 0 0) d5
  have e4 : ((w1.setCell ⟨w.heap.size + 1, 0, none⟩ (.slice none 0 0)).setCell ⟨w.heap.size + 1 + 1, 0, none⟩ (.slice none 0 0)).cell? ⟨w.heap.size + 1, 0, none⟩ = some (.slice none 0 0) := set_far (by dsimp only; omega) d4
  clear hb1 hbel hk4 hk5
  go_wp2
  refine bodyPost_ret (v := .tuple #[.slice none 0 0, .slice none 0 0, .slice none 0 0, I (progErr rows owners)]) (by simp [results, Tryz.results143, go_sem, e4, e5]) rfl ⟨rfl, ?_⟩
  exact (HB1.out.setCell (by dsimp only; omega) _).setCell (by dsimp only; omega) _

set_option maxRecDepth 100000 in
set_option maxHeartbeats 2000000 in
/-- question refuses people who are not named in order. -/
theorem question_arg (vr vo vw : Value) (rows : List (List Int)) (owners who : List Int) (w : World) (hr : Rows2 w vr rows) (ho : Ints w vo owners) (hw : Ints w vw who) (h0 : progErr rows owners = 0) (h1 : whoOk who (-1) = false) :
    Calls Tryz.prog 143 #[.agg #[vr, vo], vw] w fun e w' => e = .returned (.tuple #[.slice none 0 0, .slice none 0 0, .slice none 0 0, I 1]) ∧ Below w.heap.size w w' := by
  obtain ⟨A, ca, rfl, hma⟩ := hr.shape
  obtain ⟨B, cb, rfl, hmb⟩ := ho.shape
  obtain ⟨C, cc, rfl, hmc⟩ := hw.shape
  have g0 : (progErr rows owners != 0) = false := by rw [h0]; rfl
  have HR := Lib.hid hr
  have HO := Lib.hid ho
  have HW := Lib.hid hw
  have H1 := Lib.hid h1
  clear hr ho h0 hw h1
  go_enter Tryz.func143, Tryz.ntmps143
  go_wp2_with fail
  have hbel := three_below w #[.slice A rows.length ca, .slice B owners.length cb] 25 22 23 (.slice none 0 0) (.slice none 0 0)
  obtain ⟨_, hk4, hk5⟩ := three_cells w (.slice A rows.length ca) (.slice B owners.length cb) (.slice none 0 0) (.slice none 0 0) 25 22 23
  have HBEL := Lib.hid hbel
  refine (progCheck_any _ _ rows owners _ (Sl.stays RowE.stays (Below.old hbel) HR.out) (Sl.stays IntE.stays (Below.old hbel) HO.out)).mono ?_
  rintro e w1 ⟨rfl, hb1⟩
  obtain ⟨c4, f4⟩ := keep2 hb1 hk4
  obtain ⟨c5, f5⟩ := keep2 hb1 hk5
  have HB1 := Lib.hid (below_step HBEL.out hb1)
  have HW1 : Hid (Ints w1 (.slice C who.length cc) who) := Lib.hid (HW.out.below HB1.out)
  have d4 := set_same (v := .slice none 0 0) c4
  have d5 : (w1.setCell ⟨w.heap.size + 1, 0, none⟩ (.slice none 0 0)).cell? ⟨w.heap.size + 1 + 1, 0, none⟩ = some (.slice none 0 0) := set_far (by dsimp only; omega) c5
  have e5 := set_same (v := .slice none 0 0) d5
  have e4 : ((w1.setCell ⟨w.heap.size + 1, 0, none⟩ (.slice none 0 0)).setCell ⟨w.heap.size + 1 + 1, 0, none⟩ (.slice none 0 0)).cell? ⟨w.heap.size + 1, 0, none⟩ = some (.slice none 0 0) := set_far (by dsimp only; omega) d4
  clear hb1 hbel hk4 hk5
  go_wp2
  go_loop [6, 7, 8, 10, 21] (fun v6 v7 v8 _ j => v6 = .slice none 0 0 ∧ v7 = I (progErr rows owners) ∧ ∃ (k : Nat) (last : Int), k ≤ who.length ∧ j = I k ∧ v8 = I last ∧ Hid (whoOk (who.drop k) last = false)) (fun _ _ _ _ j => who.length - (intOf j).toNat)
  case atStart => exact ⟨rfl, rfl, 0, -1, Nat.zero_le _, rfl, rfl, Lib.hid H1.out⟩
  case round =>
    obtain ⟨rfl, rfl, k, last, hk, rfl, rfl, hbad⟩ := hrel
    by_cases hlt : k < who.length
    · obtain ⟨ad, rfl, hc⟩ := HW1.out.at k hlt
      have hd := hbad.out
      rw [whoOk_drop hlt] at hd
      have fin : ∀ e : Ending, e = .returned (.tuple #[.slice none 0 0, .slice none 0 0, .slice none 0 0, I 1]) → e = .returned (.tuple #[.slice none 0 0, .slice none 0 0, .slice none 0 0, I 1]) := fun _ h => h
      clear fin
      go_wp2_with fail
      refine (isPerson_any _ _).mono ?_
      rintro e w' ⟨rfl, rfl⟩
      cases hp : isP who[k] with
      | false =>
        clear hp hd
        go_wp2
        refine bodyPost_ret (v := .tuple #[.slice none 0 0, .slice none 0 0, .slice none 0 0, I 1]) (by simp [results, Tryz.results143, go_sem, e4, e5]) rfl ⟨rfl, ?_⟩
        exact (HB1.out.setCell (by dsimp only; omega) _).setCell (by dsimp only; omega) _
      | true =>
        rw [hp] at hd
        by_cases hq : who[k] ≤ last
        · have g : decide (who[k] ≤ last) = true := decide_eq_true hq
          clear hp hd hq
          go_wp2
          refine bodyPost_ret (v := .tuple #[.slice none 0 0, .slice none 0 0, .slice none 0 0, I 1]) (by simp [results, Tryz.results143, go_sem, e4, e5]) rfl ⟨rfl, ?_⟩
          exact (HB1.out.setCell (by dsimp only; omega) _).setCell (by dsimp only; omega) _
        · have g : decide (who[k] ≤ last) = false := decide_eq_false hq
          have HN : Hid (whoOk (who.drop (k + 1)) who[k] = false) := Lib.hid (by simpa [show last < who[k] by omega] using hd)
          clear hp hd hq
          go_wp2
          go_round
          case rel => exact ⟨rfl, rfl, k + 1, who[k], by omega, by go_num, rfl, HN⟩
          case measure => simp [intOf]; omega
    · exfalso
      have h := hbad.out
      rw [List.drop_eq_nil_of_le (by omega)] at h
      cases h

theorem placesOf_lt {owners who : List Int} {n p : Nat} (h : p ∈ placesOf owners who n) : p < n := by
  unfold placesOf at h
  exact List.mem_range.1 (List.mem_filter.1 h).1
theorem placesOf_len (owners who : List Int) (n : Nat) : (placesOf owners who n).length ≤ n := by
  unfold placesOf
  have := List.length_filter_le (fun i => hasI who (owners.getD i 0)) (List.range n)
  simpa using this

theorem two_cells (w : World) (x y c : Value) (t1 t2 : TypeId) :
    let W := (w.alloc (.cells #[x, y] t1)).alloc (.cells #[c] t2)
    W.cell? ⟨w.heap.size, 0, none⟩ = some x ∧ W.cell? ⟨w.heap.size, 1, none⟩ = some y ∧ W.cell? ⟨w.heap.size + 1, 0, none⟩ = some c := by
  intro W
  have h1 : (w.alloc (.cells #[x, y] t1)).cell? ⟨w.heap.size, 0, none⟩ = some x := by rw [World.cell?_alloc_new]; rfl
  have h2 : (w.alloc (.cells #[x, y] t1)).cell? ⟨w.heap.size, 1, none⟩ = some y := by rw [World.cell?_alloc_new]; rfl
  exact ⟨keepA _ h1, keepA _ h2, (new_cell (w.alloc (.cells #[x, y] t1)) c t2 (w.heap.size + 1) (by simp)).1⟩

theorem own1_iter' {bp bw : Nat} {Ar Ao Aw : Option Addr} {n cr co cw : Nat} {vs : Nat → Value} {owners who : List Int} {w0 : World} (_h : OwnN bp bw Ar Ao Aw n cr co cw vs owners who w0) (hn : n ≤ 1000) (hinc : Incr who) (hsl : ∀ i, i < n → ∃ A m c, vs i = .slice A m c) :
    Iter Tryz.prog 197 #[.pointer (some ⟨bp, 0, none⟩), .pointer (some ⟨bw, 0, none⟩)] encO (fun _ => False) (fun _ => False) (fun _ W => OwnN bp bw Ar Ao Aw n cr co cw vs owners who W) (ownL vs owners who n) w0 := own1_iter bp bw Ar Ao Aw n cr co cw vs owners who w0 hn hinc hsl

theorem ownL_mem {vs : Nat → Value} {owners who : List Int} {n : Nat} {x : Nat × Value} (h : x ∈ ownL vs owners who n) : ∃ i, i < n ∧ x = (i, vs i) := by
  unfold ownL at h
  obtain ⟨i, hi, rfl⟩ := List.mem_map.1 h
  exact ⟨i, List.mem_range.1 (List.mem_filter.1 hi).1, rfl⟩
theorem ownL_len (vs : Nat → Value) (owners who : List Int) (n : Nat) : (ownL vs owners who n).length ≤ n := by
  rw [← List.length_map (f := (·.1)), ownL_fst]; exact placesOf_len owners who n

/-- What holds of the world while people's rows are gathered. -/
structure QL (w W0 : World) (b4 b5 : Nat) (pre : List (Nat × Value)) (W : World) : Prop where
  qi : ∃ vr va, QI b4 b5 (W0.heap.size + 2) pre vr va W
  low : Below w.heap.size w W
  same : Same (fun k => k ≠ b4 ∧ k ≠ b5 ∧ k < W0.heap.size) W0 W

theorem QL.keep {w W0 : World} {b4 b5 : Nat} {pre : List (Nat × Value)} {A B : World} (h : QL w W0 b4 b5 pre A) (h4 : b4 < W0.heap.size) (h5 : b5 < W0.heap.size) (hw : w.heap.size ≤ W0.heap.size) (hs : Same (fun k => k ≠ W0.heap.size ∧ k ≠ W0.heap.size + 1) A B) : QL w W0 b4 b5 pre B := by
  obtain ⟨⟨vr, va, hq⟩, hl, hsm⟩ := h
  refine ⟨⟨vr, va, hq.same hs ⟨by omega, by omega⟩ ⟨by omega, by omega⟩ (fun g hg => ?_) (fun g hg => ?_)⟩, hl.trans (hs.below (fun k hk => ⟨by omega, by omega⟩) hl.size), hsm.trans2 hs fun k _ hk => ⟨by omega, by omega⟩⟩
  · have := (hq.o4.base_le g hg).1; exact ⟨by omega, by omega⟩
  · have := (hq.o5.base_le g hg).1; exact ⟨by omega, by omega⟩

theorem rows_of_own {W : World} {base : Nat} {v : Value} {raws : List Value} {xs : List (List Int)} (h : OwnOf 23 1 encV W base v raws) (hl : raws.length = xs.length) (hm : raws.length ≤ 140737488355328)
    (hx : ∀ i, (h1 : i < raws.length) → (h2 : i < xs.length) → Ints W raws[i] xs[i]) : Rows2 W v xs := by
  have h2 : Sl 1 (fun w a (u : Value) => w.cell? a = some u) W v raws := h.sl (fun _ => rfl) _ (fun a x hs hc => by
    have := hc 0 x rfl
    obtain ⟨b, o, s⟩ := a
    simp at hs; subst hs
    exact this) hm
  obtain ⟨A, c, e, h3, h4, h5⟩ := h2
  refine ⟨A, c, by rw [e, hl], by rw [← hl]; exact h3, by rw [← hl]; exact h4, fun i hi => ?_⟩
  obtain ⟨ad, e1, e2⟩ := h5 i (by omega)
  exact ⟨ad, e1, raws[i], e2, hx i (by omega) hi⟩

set_option maxRecDepth 100000 in
set_option maxHeartbeats 4000000 in
theorem question_zero (vr vo vw : Value) (rows : List (List Int)) (owners who : List Int) (w : World) (hr : Rows2 w vr rows) (ho : Ints w vo owners) (hw : Ints w vw who) (h0 : progErr rows owners = 0) (h1 : whoOk who (-1) = true)
    (hn0 : rows.length = 0) :
    Calls Tryz.prog 143 #[.agg #[vr, vo], vw] w fun e w' => ∃ ur ua ut, e = .returned (.tuple #[ur, ua, ut, I 0]) ∧ Rows2 w' ur (rowsOf rows owners who) ∧ Ints w' ua ((placesOf owners who rows.length).map fun i : Nat => (i : Int)) ∧ Ints w' ut (targetOf rows) ∧ Below w.heap.size w w' := by
  obtain ⟨A, ca, rfl, hma⟩ := hr.shape
  obtain ⟨B, cb, rfl, hmb⟩ := ho.shape
  obtain ⟨C, cc, rfl, hmc⟩ := hw.shape
  have g0 : (progErr rows owners != 0) = false := by rw [h0]; rfl
  have hinc := (whoOk_incr who (-1) h1).1
  obtain ⟨h64, _, hlen, hbad⟩ := progErr_zero h0
  have hcp := cols_pos h0
  have HR := Lib.hid hr
  have HO := Lib.hid ho
  have HW := Lib.hid hw
  have H1 := Lib.hid h1
  have HINC := Lib.hid hinc
  have HLEN := Lib.hid hlen
  have HBAD := Lib.hid hbad
  have HCP := Lib.hid hcp
  have HN := Lib.hid hn0
  obtain ⟨i0, hi0, hzz⟩ := Option.map_eq_some_iff.1 info_int
  simp only [Prod.mk.injEq] at hzz
  have HI := Lib.hid hi0
  have HZ := Lib.hid hzz
  clear hr ho h0 hw h1 hinc hlen hbad hcp hi0 hzz hn0
  refine (callsIn_wide (n := 5)).1 ?_
  refine callsIn_of_wp_marks Tryz.func143 rfl trivial ?_
  simp only [Tryz.ntmps143, List.size_toArray, List.length_cons, List.length_nil, Nat.reduceAdd, Nat.reduceSub, Array.replicate_succ, Array.replicate_zero, List.push_toArray, List.append_toArray, List.nil_append, List.cons_append]
  gi_wp2_with fail
  have hbel := three_below w #[.slice A rows.length ca, .slice B owners.length cb] 25 22 23 (.slice none 0 0) (.slice none 0 0)
  obtain ⟨⟨hp0, hp1⟩, hk4, hk5⟩ := three_cells w (.slice A rows.length ca) (.slice B owners.length cb) (.slice none 0 0) (.slice none 0 0) 25 22 23
  have HBEL := Lib.hid hbel
  refine ⟨trivial, ?_⟩
  refine (callsIn_wide.2 (progCheck_any _ _ rows owners _ (Sl.stays RowE.stays (Below.old hbel) HR.out) (Sl.stays IntE.stays (Below.old hbel) HO.out))).mono ?_
  rintro e w1 ⟨rfl, hb1⟩
  have HK4 := Lib.hid (keep2 hb1 hk4)
  have HK5 := Lib.hid (keep2 hb1 hk5)
  have q0 := keep hb1 hp0
  have q1 := keep hb1 hp1
  have HB1 := Lib.hid (below_step HBEL.out hb1)
  have HW1 : Hid (Ints w1 (.slice C who.length cc) who) := Lib.hid (HW.out.below HB1.out)
  have HR1 : Hid (Rows2 w1 (.slice A rows.length ca) rows) := Lib.hid (HR.out.below HB1.out)
  have hsz1 : w.heap.size + 3 ≤ w1.heap.size := by have := hb1.size; simp at this; omega
  clear hb1 hbel hk4 hk5 hp0 hp1
  gi_wp2
  gi_loop [6, 7, 8, 10, 21] (fun v6 v7 v8 _ j => v6 = .slice none 0 0 ∧ v7 = I (progErr rows owners) ∧ ∃ (k : Nat) (last : Int), k ≤ who.length ∧ j = I k ∧ v8 = I last ∧ Hid (whoOk (who.drop k) last = true)) (fun _ _ _ _ j => who.length - (intOf j).toNat)
  case atStart => exact ⟨rfl, rfl, 0, -1, Nat.zero_le _, rfl, rfl, Lib.hid H1.out⟩
  case round =>
    obtain ⟨rfl, rfl, k, last, hk, rfl, rfl, hgood⟩ := hrel
    by_cases hlt : k < who.length
    · obtain ⟨ad, rfl, hc⟩ := HW1.out.at k hlt
      have hd := hgood.out
      rw [whoOk_drop hlt] at hd
      simp only [Bool.and_eq_true, decide_eq_true_eq] at hd
      obtain ⟨d1, d2, d3⟩ := hd
      have D1 := Lib.hid d1
      have D3 := Lib.hid d3
      have g : decide (who[k] ≤ last) = false := decide_eq_false (by omega)
      clear d1 d3
      gi_wp2_with fail
      refine ⟨trivial, ?_⟩
      refine (callsIn_wide.2 (isPerson_any _ _)).mono ?_
      rintro e w' ⟨rfl, rfl⟩
      rw [D1.out]
      gi_wp2
      go_round
      case rel => exact ⟨rfl, rfl, k + 1, who[k], by omega, by go_num, rfl, D3⟩
      case measure => simp [intOf]; omega
    · clear hgood
      have hL : ∃ m : Nat, (1 : Int) = (m : Int) ∧ m = cols rows := ⟨1, rfl, by unfold cols; rw [if_pos HN.out]⟩
      have gg2 : ¬ 0 < rows.length := by have := HN.out; omega
      have gg : decide (0 < (rows.length : Int)) = false := decide_eq_false (by omega)
      obtain ⟨m, hL, hmc⟩ := hL
      have HMC := Lib.hid hmc
      have HL := Lib.hid hL
      have hm1 : 0 < m := by have := HCP.out; omega
      have hm2 : m ≤ 64 := by have := HCP.out; omega
      clear hL hmc
      gi_wp2_with (gi_at_make; refine make_fullIn _ rfl _ _ 23 (by rfl) w1.heap.size 3 i0 (I 0) 1 Tryz.underlying23 HI.out HZ.out.1 HZ.out.2.1 .i64 .i64 _ _ m (by rfl) (by rfl) HL.out HL.out (by rw [HZ.out.2.2]; omega) (by simp only [maxLen]; omega) (Nat.le_refl _) ?_; intro w2 hown2 hgrow2; have hrc := RowC.zeros hown2; have hb2 : Below w1.heap.size w1 w2 := (Below.refl w1.heap.size w1).grown hgrow2 (Nat.le_refl _) (fun k hk => by (cases hk)); have hz2 : w1.heap.size < w2.heap.size := cell_old (hrc.cell 0 hm1); have cy := hrc.cell 0 hm1; have fy := hrc.free 0 hm1; have HRC := Lib.hid (hrc.set hm1 1); have HB2 := Lib.hid (hb2.setCell (p := ⟨w1.heap.size, 0, none⟩) (Nat.le_refl _) (I 1)); have r0 := keep HB2.out q0; have r1 := keep HB2.out q1; clear hown2 hgrow2 hrc hb2)
      refine ⟨trivial, ?_⟩
      refine (callsIn_wide.2 (own_any _ _ _ _ _ _ _ _ _ rfl ⟨_, _, _, rfl⟩)).mono ?_
      rintro e w3 ⟨rfl, rfl⟩
      obtain ⟨W2, hW2⟩ : ∃ W2, w2.setCell ⟨w1.heap.size, 0, none⟩ (I 1) = W2 := ⟨_, rfl⟩
      rw [hW2] at HRC HB2 r0 r1 ⊢
      have hz3 : w1.heap.size < W2.heap.size := by rw [← hW2]; simpa [World.setCell] using hz2
      have HB0 : Hid (Below w.heap.size w W2) := Lib.hid (below_step HB1.out HB2.out)
      obtain ⟨vs, hvs⟩ := Rows2.vals HR.out
      have hcs := two_cells W2 (.slice A rows.length ca) (.slice B owners.length cb) (.slice C who.length cc) 25 23
      obtain ⟨W0, hW0⟩ : ∃ W0, (W2.alloc (.cells #[.slice A rows.length ca, .slice B owners.length cb] 25)).alloc (.cells #[.slice C who.length cc] 23) = W0 := ⟨_, rfl⟩
      have hz0 : W0.heap.size = W2.heap.size + 2 := by rw [← hW0]; simp
      have hb0 : Below W2.heap.size W2 W0 := by rw [← hW0]; exact ((Below.refl _ W2).alloc (Nat.le_refl _) _).alloc (by simp) _
      rw [hW0] at hcs ⊢
      have HB00 : Hid (Below w.heap.size w W0) := Lib.hid (below_step HB0.out hb0)
      have HVS : Hid (∀ i, (hi : i < rows.length) → ∃ ad, A = some ad ∧ w.cell? (ad.add i) = some (vs i) ∧ Ints w (vs i) rows[i]) := Lib.hid hvs
      have HN0 : Hid (OwnN W2.heap.size (W2.heap.size + 1) A B C rows.length ca cb cc vs owners who W0) := Lib.hid
        ⟨hcs.1, by rw [HLEN.out]; exact hcs.2.1, hcs.2.2, fun i hi => by obtain ⟨ad, e1, e2, _⟩ := HVS.out i hi; exact ⟨ad, e1, keep HB00.out e2⟩, by rw [HLEN.out]; exact HO.out.below HB00.out, HLEN.out.symm, HW.out.below HB00.out⟩
      have HSL : Hid (∀ i, i < rows.length → ∃ A m c, vs i = .slice A m c) := Lib.hid (fun i hi => by
        obtain ⟨ad, _, _, e3⟩ := HVS.out i hi
        obtain ⟨A1, c1, e, _⟩ := e3.shape
        exact ⟨A1, _, c1, e⟩)
      have HK40 := Lib.hid (keep2 hb0 (keep2 HB2.out HK4.out))
      have HK50 := Lib.hid (keep2 hb0 (keep2 HB2.out HK5.out))
      have HRC0 := Lib.hid (HRC.out.below hb0)
      have hit := own1_iter' HN0.out (by omega) HINC.out HSL.out
      have hz01 : W2.heap.size + 2 ≤ W0.heap.size := by omega
      clear hz0 hW0 hvs hcs hb0 hz2 cy fy gg
      gi_wp2
      refine range_law rfl (enters_of Tryz.func197 (by kernel_rfl) rfl) hit (fun _ => rfl) (fun k => k = w.heap.size + 1 ∨ k = w.heap.size + 1 + 1 ∨ W0.heap.size + 2 ≤ k) (fun k h1 h2 => h2) (fun k h => h.elim) (fun k h => by omega) (fun k h => h.elim)
        (fun pre W' => QL w W0 (w.heap.size + 1) (w.heap.size + 1 + 1) pre W') (fun _ _ => False) ?need ?keep (fun _ _ _ h _ => h) ?start ?a1 ?assign ?body ?done ?stop
      case assign =>
        intro l x W' K hK
        dsimp only [encO]
        gi_wp2
        exact hK
      case need =>
        intro s' A' h
        have hq := HN0.out
        refine ⟨h.same.cell (by dsimp only; omega) hq.p0, h.same.cell (by dsimp only; omega) hq.p1, h.same.cell (by dsimp only; omega) hq.p2, fun i hi => ?_, ?_, hq.len, HW.out.below h.low⟩
        · obtain ⟨ad, e1, e2, _⟩ := HVS.out i hi
          exact ⟨ad, e1, keep h.low e2⟩
        · rw [HLEN.out]; exact HO.out.below h.low
      case keep =>
        intro s' A' B' h hs
        exact h.keep (by omega) (by omega) (by omega) (hs.mono fun k _ hk => ⟨fun h => h, hk.1, hk.2⟩)
      case start =>
        refine ⟨⟨.slice none 0 0, .slice none 0 0, HK40.out.1, HK40.out.2, HK50.out.1, HK50.out.2, OwnOf.nil _ _ _ _ _, OwnOf.nil _ _ _ _ _⟩, HB00.out, Same.refl _ _⟩
      case stop =>
        intro c' W' hz h
        exact h.elim
      case body =>
        rintro l pre x W' hz h hpre
        obtain ⟨i, hi, rfl⟩ := ownL_mem (hpre.subset (by simp : x ∈ pre ++ [x]))
        exact absurd hi (by omega)
      case done =>
        rintro W4 hz h hD
        obtain ⟨⟨vr, va, hq⟩, hlow, hsame⟩ := h
        have hxl := ownL_len vs owners who rows.length
        have e1 : (ownL vs owners who rows.length).map (·.1) = placesOf owners who rows.length := ownL_fst _ _ _ _
        have e2 : (ownL vs owners who rows.length).map (·.2) = (placesOf owners who rows.length).map vs := ownL_snd _ _ _ _
        obtain ⟨A4, c4, e4⟩ := hq.o4.shape
        obtain ⟨A5, c5, e5⟩ := hq.o5.shape
        rw [List.length_map] at e4 e5
        subst e4 e5
        generalize (ownL vs owners who rows.length).length = nl at *
        have HQ := Lib.hid hq
        have HLOW := Lib.hid hlow
        have HSAME := Lib.hid hsame
        have HE1 := Lib.hid e1
        have HE2 := Lib.hid e2
        have c4' := hq.c4
        have c5' := hq.c5
        have f4' := hq.f4
        have f5' := hq.f5
        clear hq hlow hsame e1 e2 hit
        gi_wp2
        refine Rely.regionBIn _ _ _ _ (by kernel_rfl) [0,1,2] [] [3,4,5,6] (fun _ _ _ => True) (fun w' => w'.cell? ⟨w.heap.size + 1 + 1, 0, none⟩ = some (.slice A5 nl c5)) (by kernel_rfl) (fun w' hb => (hb.cell (cell_old c5')).trans c5') ?_
        (refine Rely.Fx.loadIn ?rlc1 rfl (by kernel_rfl) rfl rfl rfl (Rely.Stab.refl _ _ _) (fun _ hb => ?rlh1) ?rlk1; (case rlh1 => (have hrl := (hb.cell (cell_old c4')).trans c4'; go_simp; try rfl)); go_simp)
        (refine Rely.Fx.runIn ?rlc2 rfl rfl rfl rfl (fun _ hC => ?rlh2) ?rlk2; (case rlh2 => (have hrl := (hC : World.cell? _ _ = _); go_simp; try rfl)); go_simp)
        (refine Rely.Fx.runIn ?rlc3 rfl rfl rfl rfl (fun _ _ => ?rlh3) ?rlk3; (case rlh3 => (go_simp; try rfl)); go_simp)
        refine Rely.Fx.done ?_
        refine Rely.Lt.done ?_
        intro w' hb _
        have HB := Lib.hid hb
        have k4 := (hb.cell (cell_old c4')).trans c4'
        have k5 := (hb.cell (cell_old c5')).trans c5'
        have g4 := (hb.frozen (p := ⟨w.heap.size + 1, 0, none⟩) (cell_old c4')).trans f4'
        have d5 := set_far (a := ⟨w.heap.size + 1, 0, none⟩) (v := .slice A4 nl c4) (by dsimp only; omega) k5
        have g5 : (w'.setCell ⟨w.heap.size + 1, 0, none⟩ (.slice A4 nl c4)).frozen? ⟨w.heap.size + 1 + 1, 0, none⟩ = false := set_frozen ((hb.frozen (p := ⟨w.heap.size + 1 + 1, 0, none⟩) (cell_old c5')).trans f5')
        have e5 := set_same (v := .slice A5 nl c5) d5
        have e4 := set_far (a := ⟨w.heap.size + 1 + 1, 0, none⟩) (v := .slice A5 nl c5) (by dsimp only; omega) (set_same (v := .slice A4 nl c4) k4)
        clear hb
        (refine Rely.Tl.stepIn (o := ?rlo4) ?rlho4 ?rlk4; (case rlho4 => (simp only [List.getElem?_toArray, List.getElem?_cons_succ, List.getElem?_cons_zero]; rfl)))
        gi_wp2
        refine ⟨rfl, d5, ?_⟩
        (refine Rely.Tl.stepIn (o := ?rlo5) ?rlho5 ?rlk5; (case rlho5 => (simp only [List.getElem?_toArray, List.getElem?_cons_succ, List.getElem?_cons_zero]; rfl)))
        gi_wp2
        refine ⟨rfl, e5, ?_⟩
        (refine Rely.Tl.stepIn (o := ?rlo6) ?rlho6 ?rlk6; (case rlho6 => (simp only [List.getElem?_toArray, List.getElem?_cons_succ, List.getElem?_cons_zero]; rfl)))
        gi_wp2
        refine ⟨rfl, e5, ?_⟩
        (refine Rely.Tl.lastIn (o := ?rlo7) ?rlho7 ?rlk7; (case rlho7 => (simp only [List.getElem?_toArray, List.getElem?_cons_succ, List.getElem?_cons_zero]; rfl)))
        gi_wp2
        refine ⟨rfl, ?_⟩
        gi_wp2
        obtain ⟨Wd, hWd⟩ : ∃ Wd, (w'.setCell ⟨w.heap.size + 1, 0, none⟩ (.slice A4 nl c4)).setCell ⟨w.heap.size + 1 + 1, 0, none⟩ (.slice A5 nl c5) = Wd := ⟨_, rfl⟩
        have hblk : ∀ k, k < W4.heap.size → k ≠ w.heap.size + 1 → k ≠ w.heap.size + 1 + 1 → Wd.heap[k]? = W4.heap[k]? := fun k h1 h2 h3 => by
          rw [← hWd]
          exact (Below.heap_setCell _ ⟨w.heap.size + 1 + 1, 0, none⟩ _ k h3).trans ((Below.heap_setCell _ ⟨w.heap.size + 1, 0, none⟩ _ k h2).trans (HB.out.block k h1))
        have hbel : Below w.heap.size w Wd := by
          rw [← hWd]
          exact ((HLOW.out.trans (HB.out.mono HLOW.out.size)).setCell (by dsimp only; omega) _).setCell (by dsimp only; omega) _
        rw [hWd] at e4 e5 ⊢
        have hD' : Wd.heap[W0.heap.size]? = some (.deferred (some [])) := (hblk _ (by omega) (by omega) (by omega)).trans hD
        refine ⟨by simp, .inl ⟨_, _, rfl, run_takeDeferred hD', ?_⟩⟩
        have n4 := putObj_cell (o := .deferred none) (l := W0.heap.size) (by dsimp only; omega) e4
        have n5 := putObj_cell (o := .deferred none) (l := W0.heap.size) (by dsimp only; omega) e5
        have hbf : Below w.heap.size w (Wd.putObj W0.heap.size (.deferred none)) :=
          hbel.trans (((Same.refl (fun k => k < w.heap.size) _).putObj (.inl (by omega)) _).below (fun k hk => hk) hbel.size)
        have hfin : ∀ k, k < W4.heap.size → k ≠ w.heap.size + 1 → k ≠ w.heap.size + 1 + 1 → k ≠ W0.heap.size → (Wd.putObj W0.heap.size (.deferred none)).heap[k]? = W4.heap[k]? := fun k h1 h2 h3 h4 =>
          (World.putObj_heap_other h4).trans (hblk k h1 h2 h3)
        refine ⟨.tuple #[.slice A4 nl c4, .slice A5 nl c5, .slice (some ⟨w1.heap.size, 0, none⟩) m m, I 0], by simp [results, Tryz.results143, go_sem, n4, n5], _, _, _, rfl, ?_, ?_, ?_, hbf⟩
        · have ho : OwnOf 23 1 encV (Wd.putObj W0.heap.size (.deferred none)) (W0.heap.size + 2) (.slice A4 nl c4) ((ownL vs owners who rows.length).map (·.2)) := HQ.out.o4.kept fun g hg => by
            have := HQ.out.o4.base_le g hg
            exact hfin g this.2 (by omega) (by omega) (by omega)
          rw [HE2.out] at ho
          refine rows_of_own ho (by simp [rowsOf]) (by rw [List.length_map]; have := placesOf_len owners who rows.length; omega) fun i h1 h2 => ?_
          rw [List.length_map] at h1
          have hp : (placesOf owners who rows.length)[i] < rows.length := placesOf_lt (List.getElem_mem h1)
          obtain ⟨_, _, _, e3⟩ := HVS.out _ hp
          have e6 : rows.getD (placesOf owners who rows.length)[i] [] = rows[(placesOf owners who rows.length)[i]] := by simp [hp]
          simp only [rowsOf, List.getElem_map, e6]
          exact e3.below hbf
        · have ho : OwnOf 3 1 encI (Wd.putObj W0.heap.size (.deferred none)) (W0.heap.size + 2) (.slice A5 nl c5) ((ownL vs owners who rows.length).map fun x => (x.1 : Int)) := HQ.out.o5.kept fun g hg => by
            have := HQ.out.o5.base_le g hg
            exact hfin g this.2 (by omega) (by omega) (by omega)
          have e7 : ((ownL vs owners who rows.length).map fun x => (x.1 : Int)) = (placesOf owners who rows.length).map fun i : Nat => (i : Int) := by
            rw [← HE1.out, List.map_map]; rfl
          rw [e7] at ho
          exact ho.ints (by rw [List.length_map]; have := placesOf_len owners who rows.length; omega)
        · have hr : RowC (Wd.putObj W0.heap.size (.deferred none)) w1.heap.size m (upd (fun _ => 0) 0 1) := by
            have hb : (Wd.putObj W0.heap.size (.deferred none)).heap[w1.heap.size]? = W0.heap[w1.heap.size]? :=
              (hfin _ (by have := HSAME.out.size; omega) (by omega) (by omega) (by omega)).trans (HSAME.out.block _ (by omega) ⟨by omega, by omega, by omega⟩)
            exact ⟨fun j hj => (World.cell?_of_block (w := W0) hb).trans (HRC0.out.cell j hj), fun j hj => (World.frozen?_of_block (w := W0) hb).trans (HRC0.out.free j hj)⟩
          have := hr.ints (by omega) (Nat.le_refl _)
          unfold targetOf
          rw [← HMC.out]
          exact this

set_option maxRecDepth 100000 in
set_option maxHeartbeats 4000000 in
theorem question_pos (vr vo vw : Value) (rows : List (List Int)) (owners who : List Int) (w : World) (hr : Rows2 w vr rows) (ho : Ints w vo owners) (hw : Ints w vw who) (h0 : progErr rows owners = 0) (h1 : whoOk who (-1) = true)
    (hn0 : ¬ rows.length = 0) :
    Calls Tryz.prog 143 #[.agg #[vr, vo], vw] w fun e w' => ∃ ur ua ut, e = .returned (.tuple #[ur, ua, ut, I 0]) ∧ Rows2 w' ur (rowsOf rows owners who) ∧ Ints w' ua ((placesOf owners who rows.length).map fun i : Nat => (i : Int)) ∧ Ints w' ut (targetOf rows) ∧ Below w.heap.size w w' := by
  obtain ⟨A, ca, rfl, hma⟩ := hr.shape
  obtain ⟨B, cb, rfl, hmb⟩ := ho.shape
  obtain ⟨C, cc, rfl, hmc⟩ := hw.shape
  have g0 : (progErr rows owners != 0) = false := by rw [h0]; rfl
  have hinc := (whoOk_incr who (-1) h1).1
  obtain ⟨h64, _, hlen, hbad⟩ := progErr_zero h0
  have hcp := cols_pos h0
  have HR := Lib.hid hr
  have HO := Lib.hid ho
  have HW := Lib.hid hw
  have H1 := Lib.hid h1
  have HINC := Lib.hid hinc
  have HLEN := Lib.hid hlen
  have HBAD := Lib.hid hbad
  have HCP := Lib.hid hcp
  have HN := Lib.hid hn0
  obtain ⟨i0, hi0, hzz⟩ := Option.map_eq_some_iff.1 info_int
  simp only [Prod.mk.injEq] at hzz
  have HI := Lib.hid hi0
  have HZ := Lib.hid hzz
  clear hr ho h0 hw h1 hinc hlen hbad hcp hi0 hzz hn0
  refine (callsIn_wide (n := 5)).1 ?_
  refine callsIn_of_wp_marks Tryz.func143 rfl trivial ?_
  simp only [Tryz.ntmps143, List.size_toArray, List.length_cons, List.length_nil, Nat.reduceAdd, Nat.reduceSub, Array.replicate_succ, Array.replicate_zero, List.push_toArray, List.append_toArray, List.nil_append, List.cons_append]
  gi_wp2_with fail
  have hbel := three_below w #[.slice A rows.length ca, .slice B owners.length cb] 25 22 23 (.slice none 0 0) (.slice none 0 0)
  obtain ⟨⟨hp0, hp1⟩, hk4, hk5⟩ := three_cells w (.slice A rows.length ca) (.slice B owners.length cb) (.slice none 0 0) (.slice none 0 0) 25 22 23
  have HBEL := Lib.hid hbel
  refine ⟨trivial, ?_⟩
  refine (callsIn_wide.2 (progCheck_any _ _ rows owners _ (Sl.stays RowE.stays (Below.old hbel) HR.out) (Sl.stays IntE.stays (Below.old hbel) HO.out))).mono ?_
  rintro e w1 ⟨rfl, hb1⟩
  have HK4 := Lib.hid (keep2 hb1 hk4)
  have HK5 := Lib.hid (keep2 hb1 hk5)
  have q0 := keep hb1 hp0
  have q1 := keep hb1 hp1
  have HB1 := Lib.hid (below_step HBEL.out hb1)
  have HW1 : Hid (Ints w1 (.slice C who.length cc) who) := Lib.hid (HW.out.below HB1.out)
  have HR1 : Hid (Rows2 w1 (.slice A rows.length ca) rows) := Lib.hid (HR.out.below HB1.out)
  have hsz1 : w.heap.size + 3 ≤ w1.heap.size := by have := hb1.size; simp at this; omega
  clear hb1 hbel hk4 hk5 hp0 hp1
  gi_wp2
  gi_loop [6, 7, 8, 10, 21] (fun v6 v7 v8 _ j => v6 = .slice none 0 0 ∧ v7 = I (progErr rows owners) ∧ ∃ (k : Nat) (last : Int), k ≤ who.length ∧ j = I k ∧ v8 = I last ∧ Hid (whoOk (who.drop k) last = true)) (fun _ _ _ _ j => who.length - (intOf j).toNat)
  case atStart => exact ⟨rfl, rfl, 0, -1, Nat.zero_le _, rfl, rfl, Lib.hid H1.out⟩
  case round =>
    obtain ⟨rfl, rfl, k, last, hk, rfl, rfl, hgood⟩ := hrel
    by_cases hlt : k < who.length
    · obtain ⟨ad, rfl, hc⟩ := HW1.out.at k hlt
      have hd := hgood.out
      rw [whoOk_drop hlt] at hd
      simp only [Bool.and_eq_true, decide_eq_true_eq] at hd
      obtain ⟨d1, d2, d3⟩ := hd
      have D1 := Lib.hid d1
      have D3 := Lib.hid d3
      have g : decide (who[k] ≤ last) = false := decide_eq_false (by omega)
      clear d1 d3
      gi_wp2_with fail
      refine ⟨trivial, ?_⟩
      refine (callsIn_wide.2 (isPerson_any _ _)).mono ?_
      rintro e w' ⟨rfl, rfl⟩
      rw [D1.out]
      gi_wp2
      go_round
      case rel => exact ⟨rfl, rfl, k + 1, who[k], by omega, by go_num, rfl, D3⟩
      case measure => simp [intOf]; omega
    · clear hgood
      have gg2 : 0 < rows.length := by have := HN.out; omega
      have gg : decide (0 < (rows.length : Int)) = true := decide_eq_true (by omega)
      obtain ⟨ad0, u0, rfl, hc0, hu0⟩ := HR1.out.at 0 gg2
      obtain ⟨A0, c0, rfl, hm0⟩ := hu0.shape
      rw [show ad0.add 0 = ad0 by unfold Addr.add; rfl] at hc0
      have hL : ∃ m : Nat, ((rows[0].length : Nat) : Int) = (m : Int) ∧ m = cols rows := ⟨rows[0].length, rfl, by unfold cols; rw [if_neg HN.out, headD_get gg2]⟩
      clear hu0 hm0
      obtain ⟨m, hL, hmc⟩ := hL
      have HMC := Lib.hid hmc
      have HL := Lib.hid hL
      have hm1 : 0 < m := by have := HCP.out; omega
      have hm2 : m ≤ 64 := by have := HCP.out; omega
      clear hL hmc
      gi_wp2_with (gi_at_make; refine make_fullIn _ rfl _ _ 23 (by rfl) w1.heap.size 3 i0 (I 0) 1 Tryz.underlying23 HI.out HZ.out.1 HZ.out.2.1 .i64 .i64 _ _ m (by rfl) (by rfl) HL.out HL.out (by rw [HZ.out.2.2]; omega) (by simp only [maxLen]; omega) (Nat.le_refl _) ?_; intro w2 hown2 hgrow2; have hrc := RowC.zeros hown2; have hb2 : Below w1.heap.size w1 w2 := (Below.refl w1.heap.size w1).grown hgrow2 (Nat.le_refl _) (fun k hk => by (cases hk)); have hz2 : w1.heap.size < w2.heap.size := cell_old (hrc.cell 0 hm1); have cy := hrc.cell 0 hm1; have fy := hrc.free 0 hm1; have HRC := Lib.hid (hrc.set hm1 1); have HB2 := Lib.hid (hb2.setCell (p := ⟨w1.heap.size, 0, none⟩) (Nat.le_refl _) (I 1)); have r0 := keep HB2.out q0; have r1 := keep HB2.out q1; clear hown2 hgrow2 hrc hb2)
      refine ⟨trivial, ?_⟩
      refine (callsIn_wide.2 (own_any _ _ _ _ _ _ _ _ _ rfl ⟨_, _, _, rfl⟩)).mono ?_
      rintro e w3 ⟨rfl, rfl⟩
      obtain ⟨W2, hW2⟩ : ∃ W2, w2.setCell ⟨w1.heap.size, 0, none⟩ (I 1) = W2 := ⟨_, rfl⟩
      rw [hW2] at HRC HB2 r0 r1 ⊢
      have hz3 : w1.heap.size < W2.heap.size := by rw [← hW2]; simpa [World.setCell] using hz2
      have HB0 : Hid (Below w.heap.size w W2) := Lib.hid (below_step HB1.out HB2.out)
      obtain ⟨A, hA⟩ : ∃ A, A = some ad0 := ⟨_, rfl⟩
      rw [← hA] at HR HR1 r0 ⊢
      clear hA
      obtain ⟨vs, hvs⟩ := Rows2.vals HR.out
      have hcs := two_cells W2 (.slice A rows.length ca) (.slice B owners.length cb) (.slice C who.length cc) 25 23
      obtain ⟨W0, hW0⟩ : ∃ W0, (W2.alloc (.cells #[.slice A rows.length ca, .slice B owners.length cb] 25)).alloc (.cells #[.slice C who.length cc] 23) = W0 := ⟨_, rfl⟩
      have hz0 : W0.heap.size = W2.heap.size + 2 := by rw [← hW0]; simp
      have hb0 : Below W2.heap.size W2 W0 := by rw [← hW0]; exact ((Below.refl _ W2).alloc (Nat.le_refl _) _).alloc (by simp) _
      rw [hW0] at hcs ⊢
      have HB00 : Hid (Below w.heap.size w W0) := Lib.hid (below_step HB0.out hb0)
      have HVS : Hid (∀ i, (hi : i < rows.length) → ∃ ad, A = some ad ∧ w.cell? (ad.add i) = some (vs i) ∧ Ints w (vs i) rows[i]) := Lib.hid hvs
      have HN0 : Hid (OwnN W2.heap.size (W2.heap.size + 1) A B C rows.length ca cb cc vs owners who W0) := Lib.hid
        ⟨hcs.1, by rw [HLEN.out]; exact hcs.2.1, hcs.2.2, fun i hi => by obtain ⟨ad, e1, e2, _⟩ := HVS.out i hi; exact ⟨ad, e1, keep HB00.out e2⟩, by rw [HLEN.out]; exact HO.out.below HB00.out, HLEN.out.symm, HW.out.below HB00.out⟩
      have HSL : Hid (∀ i, i < rows.length → ∃ A m c, vs i = .slice A m c) := Lib.hid (fun i hi => by
        obtain ⟨ad, _, _, e3⟩ := HVS.out i hi
        obtain ⟨A1, c1, e, _⟩ := e3.shape
        exact ⟨A1, _, c1, e⟩)
      have HK40 := Lib.hid (keep2 hb0 (keep2 HB2.out HK4.out))
      have HK50 := Lib.hid (keep2 hb0 (keep2 HB2.out HK5.out))
      have HRC0 := Lib.hid (HRC.out.below hb0)
      have hit := own1_iter' HN0.out (by omega) HINC.out HSL.out
      have hz01 : W2.heap.size + 2 ≤ W0.heap.size := by omega
      clear hz0 hW0 hvs hcs hb0 hz2 cy fy gg
      gi_wp2
      refine range_law rfl (enters_of Tryz.func197 (by kernel_rfl) rfl) hit (fun _ => rfl) (fun k => k = w.heap.size + 1 ∨ k = w.heap.size + 1 + 1 ∨ W0.heap.size + 2 ≤ k) (fun k h1 h2 => h2) (fun k h => h.elim) (fun k h => by omega) (fun k h => h.elim)
        (fun pre W' => QL w W0 (w.heap.size + 1) (w.heap.size + 1 + 1) pre W') (fun _ _ => False) ?need ?keep (fun _ _ _ h _ => h) ?start ?a1 ?assign ?body ?done ?stop
      case assign =>
        intro l x W' K hK
        dsimp only [encO]
        gi_wp2
        exact hK
      case need =>
        intro s' A' h
        have hq := HN0.out
        refine ⟨h.same.cell (by dsimp only; omega) hq.p0, h.same.cell (by dsimp only; omega) hq.p1, h.same.cell (by dsimp only; omega) hq.p2, fun i hi => ?_, ?_, hq.len, HW.out.below h.low⟩
        · obtain ⟨ad, e1, e2, _⟩ := HVS.out i hi
          exact ⟨ad, e1, keep h.low e2⟩
        · rw [HLEN.out]; exact HO.out.below h.low
      case keep =>
        intro s' A' B' h hs
        exact h.keep (by omega) (by omega) (by omega) (hs.mono fun k _ hk => ⟨fun h => h, hk.1, hk.2⟩)
      case start =>
        refine ⟨⟨.slice none 0 0, .slice none 0 0, HK40.out.1, HK40.out.2, HK50.out.1, HK50.out.2, OwnOf.nil _ _ _ _ _, OwnOf.nil _ _ _ _ _⟩, HB00.out, Same.refl _ _⟩
      case stop =>
        intro c' W' hz h
        exact h.elim
      case body =>
        rintro l pre x W' hz h hpre
        obtain ⟨i, hi, rfl⟩ := ownL_mem (hpre.subset (by simp : x ∈ pre ++ [x]))
        obtain ⟨A1, m1, c1, hvi⟩ := HSL.out i hi
        obtain ⟨⟨vr, va, hq⟩, hlow, hsame⟩ := h
        have hplen : pre.length + 1 ≤ 64 := by
          have h1 := hpre.length_le
          have h2 := ownL_len vs owners who rows.length
          simp at h1; omega
        rw [hvi] at hpre ⊢
        obtain ⟨A4, c4, e4⟩ := hq.o4.shape
        obtain ⟨A5, c5, e5⟩ := hq.o5.shape
        rw [List.length_map] at e4 e5
        subst e4 e5
        have HQ := Lib.hid hq
        have HLOW := Lib.hid hlow
        have HSAME := Lib.hid hsame
        have HVI := Lib.hid hvi
        have c4' := hq.c4
        have c5' := hq.c5
        clear hq hlow hsame hpre hvi hit
        gi_wp2
        refine Rely.regionIn _ _ _ _ (by kernel_rfl) [0,1,4,5] [2,3,6] [7,8,9] (QV (W0.heap.size + 2) pre (.slice A4 pre.length c4) i (.slice A1 m1 c1) W') (QA (W0.heap.size + 2) pre (.slice A4 pre.length c4) W') (fun _ => True) (by kernel_rfl) (fun _ _ => trivial) ⟨(Same.refl _ _).drew, HQ.out.o4.kept fun _ _ => rfl⟩ ?_
        (refine Rely.Fx.loadIn ?rlc8 rfl (by kernel_rfl) rfl rfl rfl (Rely.Stab.refl _ _ _) (fun _ hw => ?rlh8) ?rlk8; (case rlh8 => (have hrl := (hw.1.cell (a := ⟨w.heap.size + 1, 0, none⟩) (fun e => by have := (HQ.out.o4.base_le _ e).1; dsimp only at this; omega) c4'); go_simp; try rfl)); go_simp)
        (refine Rely.Fx.runIn ?rlc9 rfl rfl rfl rfl (fun _ _ => ?rlh9) ?rlk9; (case rlh9 => (go_simp; try rfl)); go_simp)
        (refine Rely.Fx.loadIn ?rlc10 rfl (by kernel_rfl) rfl rfl rfl (Rely.Stab.refl _ _ _) (fun _ hw => ?rlh10) ?rlk10; (case rlh10 => (have hrl := (hw.1.cell (a := ⟨w.heap.size + 1 + 1, 0, none⟩) (fun e => by have := (HQ.out.o4.base_le _ e).1; dsimp only at this; omega) c5'); go_simp; try rfl)); go_simp)
        (refine Rely.Fx.runIn ?rlc11 rfl rfl rfl rfl (fun _ _ => ?rlh11) ?rlk11; (case rlh11 => (go_simp; try rfl)); go_simp)
        refine Rely.Fx.done ?_
        (refine Rely.Lt.stepIn (o := ?rlo12) 55 ?rlho12 ?rlhd12 (by simp) ?rlh12 ?rlk12; (case rlho12 => (simp only [List.getElem?_toArray, List.getElem?_cons_succ, List.getElem?_cons_zero]; rfl)); (case rlhd12 => rfl))
        · intro w' hw hp
          gi_wp2
          exact ⟨_, rfl, ⟨_, rfl, hw.1.size, heap_alloc_new _ _⟩, hw.alloc _, fun j _ _ u hu => QV.alloc ((Below.refl _ _).alloc (Nat.le_refl _) _) j u hu⟩
        intro v2
        go_simp
        (refine Rely.Lt.stepIn (o := ?rlo13) 56 ?rlho13 ?rlhd13 (by simp) ?rlh13 ?rlk13; (case rlho13 => (simp only [List.getElem?_toArray, List.getElem?_cons_succ, List.getElem?_cons_zero]; rfl)); (case rlhd13 => rfl))
        · intro w' hw hp
          obtain ⟨nb, rfl, hnb1, hnb2⟩ : QV (W0.heap.size + 2) pre (.slice A4 pre.length c4) i (.slice A1 m1 c1) W' 2 v2 w' := hp.get 2 v2 (by simp) (by kernel_rfl)
          have hbase : W0.heap.size + 2 ≤ w'.heap.size := by have := hw.1.size; omega
          have hl9 : ((pre.map (·.2)).length + 1) * 24 ≤ 140737488355328 := by rw [List.length_map]; omega
          have HH := Lib.hid hw
          clear hp hw
          gi_wp2_with (gi_at_builtin; refine app_boxKeepIn (w0 := w') (W0.heap.size + 2) rfl _ _ 22 23 (.slice none 0 0) 1 24 rfl Tryz.underlying22 info_rows rfl (by decide) (by decide) encV _ _ (.slice A1 m1 c1) (by rfl) #[.slice A1 m1 c1] rfl rfl (by intro u hu; simp at hu; subst hu; rfl) nb (by rfl) hnb2 HH.out.2 (Below.refl _ _) hbase hl9 ?_; intro v3 w5 ho5 hk5 hb5 hkeep5 hsz5 hat5)
          refine ⟨_, rfl, ⟨ho5, ?_⟩, ⟨HH.out.1.trans ⟨hb5.os, hb5.tape, hb5.output, hsz5, fun k hk hne => hkeep5 k hk hne⟩, hk5⟩, fun j _ hne u hu => QV.far (fun g hg => (HQ.out.o4.base_le g hg).2) hkeep5 j u hne hu⟩
          rcases hat5 with e | ⟨g, e, hg⟩
          · exact .inl e
          · exact .inr ⟨g, e, by have := HH.out.1.size; omega⟩
        intro v3
        go_simp
        (refine Rely.Lt.stepIn (o := ?rlo14) 59 ?rlho14 ?rlhd14 (by simp) ?rlh14 ?rlk14; (case rlho14 => (simp only [List.getElem?_toArray, List.getElem?_cons_succ, List.getElem?_cons_zero]; rfl)); (case rlhd14 => rfl))
        · intro w' hw hp
          clear hp
          gi_wp2
          exact ⟨_, rfl, ⟨_, rfl, hw.1.size, heap_alloc_new _ _⟩, hw.alloc _, fun j _ _ u hu => QV.alloc ((Below.refl _ _).alloc (Nat.le_refl _) _) j u hu⟩
        intro v6
        go_simp
        refine Rely.Lt.done ?_
        intro w' hw hp
        obtain ⟨nb6, rfl, hnb61, hnb62⟩ : QV (W0.heap.size + 2) pre (.slice A4 pre.length c4) i (.slice A1 m1 c1) W' 6 v6 w' := hp.one
        have hv3 : QV (W0.heap.size + 2) pre (.slice A4 pre.length c4) i (.slice A1 m1 c1) W' 3 v3 w' := hp.rest.one
        obtain ⟨A3, c3, e3⟩ := hv3.1.shape
        rw [List.length_append, List.length_map, List.length_singleton] at e3
        subst e3
        have HV3 := Lib.hid hv3
        have HH := Lib.hid hw
        have HO5 : Hid (OwnOf 3 1 encI w' (W0.heap.size + 2) (.slice A5 pre.length c5) (pre.map fun x => (x.1 : Int))) := Lib.hid (HQ.out.o5.kept fun g hg => HH.out.1.block g (HQ.out.o5.base_le g hg).2 (fun e => own_apart HQ.out.o4 HQ.out.o5 (by decide) g e hg))
        have hbase : W0.heap.size + 2 ≤ w'.heap.size := by have := hw.1.size; omega
        have hl9 : ((pre.map fun x => (x.1 : Int)).length + 1) * 8 ≤ 140737488355328 := by rw [List.length_map]; omega
        have k4 : w'.cell? ⟨w.heap.size + 1, 0, none⟩ = some (.slice A4 pre.length c4) ∧ w'.frozen? ⟨w.heap.size + 1, 0, none⟩ = false := by
          have hk : (Value.slice A4 pre.length c4).ownBlock ≠ some (w.heap.size + 1) := fun e => by have := (HQ.out.o4.base_le _ e).1; omega
          exact ⟨hw.1.cell (a := ⟨w.heap.size + 1, 0, none⟩) hk c4', (hw.1.frozen (a := ⟨w.heap.size + 1, 0, none⟩) hk (cell_old c4')).trans HQ.out.f4⟩
        have k5 : w'.cell? ⟨w.heap.size + 1 + 1, 0, none⟩ = some (.slice A5 pre.length c5) ∧ w'.frozen? ⟨w.heap.size + 1 + 1, 0, none⟩ = false := by
          have hk : (Value.slice A4 pre.length c4).ownBlock ≠ some (w.heap.size + 1 + 1) := fun e => by have := (HQ.out.o4.base_le _ e).1; omega
          exact ⟨hw.1.cell (a := ⟨w.heap.size + 1 + 1, 0, none⟩) hk c5', (hw.1.frozen (a := ⟨w.heap.size + 1 + 1, 0, none⟩) hk (cell_old c5')).trans HQ.out.f5⟩
        have hW0w : w.heap.size + 3 ≤ W0.heap.size := by omega
        have K4 := Lib.hid k4
        have K5 := Lib.hid k5
        clear hp hw hv3 k4 k5 c4' c5'
        (refine Rely.Tl.stepIn (o := ?rlo15) ?rlho15 ?rlk15; (case rlho15 => (simp only [List.getElem?_toArray, List.getElem?_cons_succ, List.getElem?_cons_zero]; rfl)))
        gi_wp2_with (gi_at_builtin; refine app_boxIn (w0 := w') (W0.heap.size + 2) rfl _ _ 23 3 (I 0) 1 8 rfl Tryz.underlying23 info_int rfl (by decide) (by decide) encI _ _ (i : Int) (by rfl) #[I i] rfl rfl (by intro u hu; simp at hu; subst hu; rfl) nb6 (by rfl) hnb62 HO5.out (Below.refl _ _) hbase hl9 ?_; intro v7 w7 ho7 hb7 hkeep7 hsz7 hat7)
        refine ⟨rfl, ?_⟩
        obtain ⟨A7, c7, e7⟩ := ho7.shape
        rw [List.length_append, List.length_map, List.length_singleton] at e7
        subst e7
        have hn4 : (Value.slice A5 pre.length c5).ownBlock ≠ some (w.heap.size + 1) := fun e => by have := (HO5.out.base_le _ e).1; omega
        have hn5 : (Value.slice A5 pre.length c5).ownBlock ≠ some (w.heap.size + 1 + 1) := fun e => by have := (HO5.out.base_le _ e).1; omega
        have m4 : w7.heap[w.heap.size + 1]? = w'.heap[w.heap.size + 1]? := hkeep7 _ (by omega) hn4
        have m5 : w7.heap[w.heap.size + 1 + 1]? = w'.heap[w.heap.size + 1 + 1]? := hkeep7 _ (by omega) hn5
        have d4 : w7.cell? ⟨w.heap.size + 1, 0, none⟩ = some (.slice A4 pre.length c4) := (World.cell?_of_block (w := w') m4).trans K4.out.1
        have f4 : w7.frozen? ⟨w.heap.size + 1, 0, none⟩ = false := (World.frozen?_of_block (w := w') m4).trans K4.out.2
        have d5 : (w7.setCell ⟨w.heap.size + 1, 0, none⟩ (.slice A3 (pre.length + 1) c3)).cell? ⟨w.heap.size + 1 + 1, 0, none⟩ = some (.slice A5 pre.length c5) := set_far (by dsimp only; omega) ((World.cell?_of_block (w := w') m5).trans K5.out.1)
        have f5 : (w7.setCell ⟨w.heap.size + 1, 0, none⟩ (.slice A3 (pre.length + 1) c3)).frozen? ⟨w.heap.size + 1 + 1, 0, none⟩ = false := set_frozen ((World.frozen?_of_block (w := w') m5).trans K5.out.2)
        have HO7 := Lib.hid ho7
        have HB7 := Lib.hid hb7
        have HK7 := Lib.hid hkeep7
        clear ho7 hb7 hkeep7 hat7 m4 m5
        (refine Rely.Tl.stepIn (o := ?rlo16) ?rlho16 ?rlk16; (case rlho16 => (simp only [List.getElem?_toArray, List.getElem?_cons_succ, List.getElem?_cons_zero]; rfl)))
        gi_wp2
        refine ⟨rfl, ?_⟩
        (refine Rely.Tl.lastIn (o := ?rlo17) ?rlho17 ?rlk17; (case rlho17 => (simp only [List.getElem?_toArray, List.getElem?_cons_succ, List.getElem?_cons_zero]; rfl)))
        gi_wp2
        refine ⟨rfl, ?_⟩
        have HALL : Same (fun k => k ≠ w.heap.size + 1 ∧ k ≠ w.heap.size + 1 + 1 ∧ k < W0.heap.size + 2) W' ((w7.setCell ⟨w.heap.size + 1, 0, none⟩ (.slice A3 (pre.length + 1) c3)).setCell ⟨w.heap.size + 1 + 1, 0, none⟩ (.slice A7 (pre.length + 1) c7)) := by
          have s1 : Same (fun k => k ≠ w.heap.size + 1 ∧ k ≠ w.heap.size + 1 + 1 ∧ k < W0.heap.size + 2) W' w' := HH.out.1.mono fun k _ hk e => by have := (HQ.out.o4.base_le _ e).1; omega
          have s2 : Same (fun k => k ≠ w.heap.size + 1 ∧ k ≠ w.heap.size + 1 + 1 ∧ k < W0.heap.size + 2) w' w7 := ⟨HB7.out.os, HB7.out.tape, HB7.out.output, hsz7, fun k hk hK => HK7.out k hk fun e => by have := (HO5.out.base_le _ e).1; omega⟩
          exact ((s1.trans s2).setCell (.inl (fun h => h.1 rfl)) _).setCell (.inl (fun h => h.2.1 rfl)) _
        have hset : ∀ {α : Type} {e : TypeId} {sz : Nat} {enc : α → List Value} {v : Value} {xs : List α}, OwnOf e sz enc w7 (W0.heap.size + 2) v xs → OwnOf e sz enc ((w7.setCell ⟨w.heap.size + 1, 0, none⟩ (.slice A3 (pre.length + 1) c3)).setCell ⟨w.heap.size + 1 + 1, 0, none⟩ (.slice A7 (pre.length + 1) c7)) (W0.heap.size + 2) v xs := fun ho =>
          ho.kept fun g hg => by
            have := (ho.base_le g hg).1
            exact (Below.heap_setCell _ ⟨w.heap.size + 1 + 1, 0, none⟩ _ g (by dsimp only; omega)).trans (Below.heap_setCell _ ⟨w.heap.size + 1, 0, none⟩ _ g (by dsimp only; omega))
        refine ⟨HALL.mono fun k _ hk => ⟨fun e => hk (.inl e), fun e => hk (.inr (.inl e)), by
          have : ¬ W0.heap.size + 2 ≤ k := fun e => hk (.inr (.inr e))
          omega⟩, ⟨⟨.slice A3 (pre.length + 1) c3, .slice A7 (pre.length + 1) c7, ?_, ?_, ?_, ?_, ?_, ?_⟩, ?_, ?_⟩⟩
        · exact set_far (by dsimp only; omega) (set_same d4)
        · exact set_frozen (set_frozen f4)
        · exact set_same d5
        · exact set_frozen f5
        · rw [List.map_append]
          exact hset (HV3.out.1.kept fun g hg => HK7.out g (HV3.out.1.base_le g hg).2 (own_apart HV3.out.1 HO5.out (by decide) g hg))
        · rw [List.map_append]
          exact hset HO7.out
        · exact HLOW.out.trans (HALL.below (fun k hk => ⟨by omega, by omega, by omega⟩) HLOW.out.size)
        · exact HSAME.out.trans2 HALL fun k _ hk => ⟨hk.1, hk.2.1, by omega⟩
      case done =>
        rintro W4 hz h hD
        obtain ⟨⟨vr, va, hq⟩, hlow, hsame⟩ := h
        have hxl := ownL_len vs owners who rows.length
        have e1 : (ownL vs owners who rows.length).map (·.1) = placesOf owners who rows.length := ownL_fst _ _ _ _
        have e2 : (ownL vs owners who rows.length).map (·.2) = (placesOf owners who rows.length).map vs := ownL_snd _ _ _ _
        obtain ⟨A4, c4, e4⟩ := hq.o4.shape
        obtain ⟨A5, c5, e5⟩ := hq.o5.shape
        rw [List.length_map] at e4 e5
        subst e4 e5
        generalize (ownL vs owners who rows.length).length = nl at *
        have HQ := Lib.hid hq
        have HLOW := Lib.hid hlow
        have HSAME := Lib.hid hsame
        have HE1 := Lib.hid e1
        have HE2 := Lib.hid e2
        have c4' := hq.c4
        have c5' := hq.c5
        have f4' := hq.f4
        have f5' := hq.f5
        clear hq hlow hsame e1 e2 hit
        gi_wp2
        refine Rely.regionBIn _ _ _ _ (by kernel_rfl) [0,1,2] [] [3,4,5,6] (fun _ _ _ => True) (fun w' => w'.cell? ⟨w.heap.size + 1 + 1, 0, none⟩ = some (.slice A5 nl c5)) (by kernel_rfl) (fun w' hb => (hb.cell (cell_old c5')).trans c5') ?_
        (refine Rely.Fx.loadIn ?rlc18 rfl (by kernel_rfl) rfl rfl rfl (Rely.Stab.refl _ _ _) (fun _ hb => ?rlh18) ?rlk18; (case rlh18 => (have hrl := (hb.cell (cell_old c4')).trans c4'; go_simp; try rfl)); go_simp)
        (refine Rely.Fx.runIn ?rlc19 rfl rfl rfl rfl (fun _ hC => ?rlh19) ?rlk19; (case rlh19 => (have hrl := (hC : World.cell? _ _ = _); go_simp; try rfl)); go_simp)
        (refine Rely.Fx.runIn ?rlc20 rfl rfl rfl rfl (fun _ _ => ?rlh20) ?rlk20; (case rlh20 => (go_simp; try rfl)); go_simp)
        refine Rely.Fx.done ?_
        refine Rely.Lt.done ?_
        intro w' hb _
        have HB := Lib.hid hb
        have k4 := (hb.cell (cell_old c4')).trans c4'
        have k5 := (hb.cell (cell_old c5')).trans c5'
        have g4 := (hb.frozen (p := ⟨w.heap.size + 1, 0, none⟩) (cell_old c4')).trans f4'
        have d5 := set_far (a := ⟨w.heap.size + 1, 0, none⟩) (v := .slice A4 nl c4) (by dsimp only; omega) k5
        have g5 : (w'.setCell ⟨w.heap.size + 1, 0, none⟩ (.slice A4 nl c4)).frozen? ⟨w.heap.size + 1 + 1, 0, none⟩ = false := set_frozen ((hb.frozen (p := ⟨w.heap.size + 1 + 1, 0, none⟩) (cell_old c5')).trans f5')
        have e5 := set_same (v := .slice A5 nl c5) d5
        have e4 := set_far (a := ⟨w.heap.size + 1 + 1, 0, none⟩) (v := .slice A5 nl c5) (by dsimp only; omega) (set_same (v := .slice A4 nl c4) k4)
        clear hb
        (refine Rely.Tl.stepIn (o := ?rlo21) ?rlho21 ?rlk21; (case rlho21 => (simp only [List.getElem?_toArray, List.getElem?_cons_succ, List.getElem?_cons_zero]; rfl)))
        gi_wp2
        refine ⟨rfl, d5, ?_⟩
        (refine Rely.Tl.stepIn (o := ?rlo22) ?rlho22 ?rlk22; (case rlho22 => (simp only [List.getElem?_toArray, List.getElem?_cons_succ, List.getElem?_cons_zero]; rfl)))
        gi_wp2
        refine ⟨rfl, e5, ?_⟩
        (refine Rely.Tl.stepIn (o := ?rlo23) ?rlho23 ?rlk23; (case rlho23 => (simp only [List.getElem?_toArray, List.getElem?_cons_succ, List.getElem?_cons_zero]; rfl)))
        gi_wp2
        refine ⟨rfl, e5, ?_⟩
        (refine Rely.Tl.lastIn (o := ?rlo24) ?rlho24 ?rlk24; (case rlho24 => (simp only [List.getElem?_toArray, List.getElem?_cons_succ, List.getElem?_cons_zero]; rfl)))
        gi_wp2
        refine ⟨rfl, ?_⟩
        gi_wp2
        obtain ⟨Wd, hWd⟩ : ∃ Wd, (w'.setCell ⟨w.heap.size + 1, 0, none⟩ (.slice A4 nl c4)).setCell ⟨w.heap.size + 1 + 1, 0, none⟩ (.slice A5 nl c5) = Wd := ⟨_, rfl⟩
        have hblk : ∀ k, k < W4.heap.size → k ≠ w.heap.size + 1 → k ≠ w.heap.size + 1 + 1 → Wd.heap[k]? = W4.heap[k]? := fun k h1 h2 h3 => by
          rw [← hWd]
          exact (Below.heap_setCell _ ⟨w.heap.size + 1 + 1, 0, none⟩ _ k h3).trans ((Below.heap_setCell _ ⟨w.heap.size + 1, 0, none⟩ _ k h2).trans (HB.out.block k h1))
        have hbel : Below w.heap.size w Wd := by
          rw [← hWd]
          exact ((HLOW.out.trans (HB.out.mono HLOW.out.size)).setCell (by dsimp only; omega) _).setCell (by dsimp only; omega) _
        rw [hWd] at e4 e5 ⊢
        have hD' : Wd.heap[W0.heap.size]? = some (.deferred (some [])) := (hblk _ (by omega) (by omega) (by omega)).trans hD
        refine ⟨by simp, .inl ⟨_, _, rfl, run_takeDeferred hD', ?_⟩⟩
        have n4 := putObj_cell (o := .deferred none) (l := W0.heap.size) (by dsimp only; omega) e4
        have n5 := putObj_cell (o := .deferred none) (l := W0.heap.size) (by dsimp only; omega) e5
        have hbf : Below w.heap.size w (Wd.putObj W0.heap.size (.deferred none)) :=
          hbel.trans (((Same.refl (fun k => k < w.heap.size) _).putObj (.inl (by omega)) _).below (fun k hk => hk) hbel.size)
        have hfin : ∀ k, k < W4.heap.size → k ≠ w.heap.size + 1 → k ≠ w.heap.size + 1 + 1 → k ≠ W0.heap.size → (Wd.putObj W0.heap.size (.deferred none)).heap[k]? = W4.heap[k]? := fun k h1 h2 h3 h4 =>
          (World.putObj_heap_other h4).trans (hblk k h1 h2 h3)
        refine ⟨.tuple #[.slice A4 nl c4, .slice A5 nl c5, .slice (some ⟨w1.heap.size, 0, none⟩) m m, I 0], by simp [results, Tryz.results143, go_sem, n4, n5], _, _, _, rfl, ?_, ?_, ?_, hbf⟩
        · have ho : OwnOf 23 1 encV (Wd.putObj W0.heap.size (.deferred none)) (W0.heap.size + 2) (.slice A4 nl c4) ((ownL vs owners who rows.length).map (·.2)) := HQ.out.o4.kept fun g hg => by
            have := HQ.out.o4.base_le g hg
            exact hfin g this.2 (by omega) (by omega) (by omega)
          rw [HE2.out] at ho
          refine rows_of_own ho (by simp [rowsOf]) (by rw [List.length_map]; have := placesOf_len owners who rows.length; omega) fun i h1 h2 => ?_
          rw [List.length_map] at h1
          have hp : (placesOf owners who rows.length)[i] < rows.length := placesOf_lt (List.getElem_mem h1)
          obtain ⟨_, _, _, e3⟩ := HVS.out _ hp
          have e6 : rows.getD (placesOf owners who rows.length)[i] [] = rows[(placesOf owners who rows.length)[i]] := by simp [hp]
          simp only [rowsOf, List.getElem_map, e6]
          exact e3.below hbf
        · have ho : OwnOf 3 1 encI (Wd.putObj W0.heap.size (.deferred none)) (W0.heap.size + 2) (.slice A5 nl c5) ((ownL vs owners who rows.length).map fun x => (x.1 : Int)) := HQ.out.o5.kept fun g hg => by
            have := HQ.out.o5.base_le g hg
            exact hfin g this.2 (by omega) (by omega) (by omega)
          have e7 : ((ownL vs owners who rows.length).map fun x => (x.1 : Int)) = (placesOf owners who rows.length).map fun i : Nat => (i : Int) := by
            rw [← HE1.out, List.map_map]; rfl
          rw [e7] at ho
          exact ho.ints (by rw [List.length_map]; have := placesOf_len owners who rows.length; omega)
        · have hr : RowC (Wd.putObj W0.heap.size (.deferred none)) w1.heap.size m (upd (fun _ => 0) 0 1) := by
            have hb : (Wd.putObj W0.heap.size (.deferred none)).heap[w1.heap.size]? = W0.heap[w1.heap.size]? :=
              (hfin _ (by have := HSAME.out.size; omega) (by omega) (by omega) (by omega)).trans (HSAME.out.block _ (by omega) ⟨by omega, by omega, by omega⟩)
            exact ⟨fun j hj => (World.cell?_of_block (w := W0) hb).trans (HRC0.out.cell j hj), fun j hj => (World.frozen?_of_block (w := W0) hb).trans (HRC0.out.free j hj)⟩
          have := hr.ints (by omega) (Nat.le_refl _)
          unfold targetOf
          rw [← HMC.out]
          exact this


end Go.Proofs.YtgacdmkhgllceaaGreatDoor
