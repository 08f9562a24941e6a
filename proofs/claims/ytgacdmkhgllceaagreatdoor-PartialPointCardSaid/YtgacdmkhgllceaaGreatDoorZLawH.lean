/- The law's examples walked: sane. -/
import Derived.Test.YtgacdmkhgllceaaGreatDoorZPln5
import Derived.Lib.SlBytesConst
namespace Go.Proofs.YtgacdmkhgllceaaGreatDoor
open Go.RowKit Go.Shelf

def txt4 : List UInt8 := [116, 101, 120, 116]
def L2 : List Kp := [⟨0, 0, 5, 6⟩, ⟨2, 2, 7, 8⟩]
theorem board_honest : Honest boardR [0, 1, 2] [10, 4] L2 txt4 where
  prog := board_prog
  len := by decide +kernel
  acc := board_acc
  who := by decide +kernel
  pos := by decide
  few := by decide
  nos := by intro x hx; simp [L2] at hx; rcases hx with rfl | rfl <;> decide
  non := by intro x hx; simp [L2] at hx; rcases hx with rfl | rfl <;> decide
  sec := by intro x hx; simp at hx; rcases hx with rfl | rfl <;> decide
  txl := by decide
theorem board_dealt : dealt boardR [10, 4] = [(0, 14), (1, 18), (2, 22)] := by decide +kernel
theorem board_early (pl : Nat) (h : pl ≤ 64) : earlyE 0 boardR [0, 1, 2] (commitsOf [10, 4]) txt4.length pl = 0 := by
  have h1 := (begE_zero board_honest.beg).1
  obtain ⟨q1, q2, q3, q4⟩ := early_zero h1
  unfold earlyE
  rw [if_neg (by rw [q1]; decide), if_neg (by rw [q2]; decide), if_neg (by omega), if_neg (by omega)]
theorem board_nil : begE 0 boardR [0, 1, 2] (commitsOf [10, 4]) txt4.length [] = 420 := by
  unfold begE
  rw [show ([] : List Pr).length = 0 from rfl, if_neg (by rw [board_early 0 (by decide)]; decide), if_neg (by unfold goodB; simp)]
theorem board_one : begE 0 boardR [0, 1, 2] (commitsOf [10, 4]) txt4.length [Kp.pr ⟨0, 0, 5, 6⟩] = 420 := by
  have hg : goodB boardR [0, 1, 2] [Kp.pr ⟨0, 0, 5, 6⟩] = false := by
    unfold goodB
    rw [show ([Kp.pr ⟨0, 0, 5, 6⟩] : List Pr).map Pr.kp = [0] from rfl, board_no]; simp
  unfold begE
  rw [show ([Kp.pr ⟨0, 0, 5, 6⟩] : List Pr).length = 1 from rfl, if_neg (by rw [board_early 1 (by decide)]; decide), if_neg (by rw [hg]; decide)]
theorem board_dealErr : dealtErr boardR [0, 1, 2] 10 [4] = 0 := by decide +kernel

theorem Rows2.new3 (w : World) (u v t : Value) (xs ys zs : List Int) (b : Nat) (ty : TypeId) (hb : b = w.heap.size) (hu : Ints w u xs) (hv : Ints w v ys) (ht : Ints w t zs) : Rows2 (w.alloc (.cells #[u, v, t] ty)) (.slice (some ⟨b, 0, none⟩) 3 3) [xs, ys, zs] := by
  subst hb
  have hl : Below w.heap.size w (w.alloc (.cells #[u, v, t] ty)) := (Below.refl _ _).alloc (Nat.le_refl _) _
  refine ⟨_, _, rfl, ⟨Nat.le_refl _, fun h => by cases h⟩, (show 3 ≤ 140737488355328 by decide), fun i hi => ⟨_, rfl, ?_⟩⟩
  have e : (⟨w.heap.size, 0, none⟩ : Addr).add (i * 1) = ⟨w.heap.size, i, none⟩ := by unfold Addr.add; split <;> simp_all
  rw [e]
  have h3 : i = 0 ∨ i = 1 ∨ i = 2 := by simp at hi; omega
  rcases h3 with rfl | rfl | rfl
  · exact ⟨u, by rw [World.cell?_alloc_new]; rfl, hu.below hl⟩
  · exact ⟨v, by rw [World.cell?_alloc_new]; rfl, hv.below hl⟩
  · exact ⟨t, by rw [World.cell?_alloc_new]; rfl, ht.below hl⟩
theorem size_alloc_le (w : World) (o : Obj) : (w.alloc o).heap.size = w.heap.size + 1 := by simp
/-- A row of ints laid anew, at a size that is known. -/
theorem Ints.newAt (w : World) (xs : List Int) (b n : Nat) (cs : Array Value) (hb : b = w.heap.size) (hc : cs = (xs.map I).toArray) (hn : n = xs.length) (hx : xs.length ≤ 1000) : Ints (w.alloc (.cells cs 3)) (.slice (some ⟨b, 0, none⟩) n n) xs :=
  Ints.new w xs b n 3 cs hb hc hn (by omega)
/-- The world in which the examples' program lies. -/
abbrev boardW (w : World) : World :=
  (((((((w.alloc (.cells #[I 1, I 1] 3)).alloc (.cells #[I 1, I 2] 3)).alloc (.cells #[I 1, I 3] 3)).alloc
    (.cells #[.slice (some ⟨w.heap.size, 0, none⟩) 2 2, .slice (some ⟨w.heap.size + 1, 0, none⟩) 2 2, .slice (some ⟨w.heap.size + 1 + 1, 0, none⟩) 2 2] 23)).alloc (.cells #[I 0, I 1, I 2] 3)).alloc
    (.cells #[.slice (some ⟨w.heap.size + 1 + 1 + 1, 0, none⟩) 3 3, .slice (some ⟨w.heap.size + 1 + 1 + 1 + 1, 0, none⟩) 3 3] 25)).alloc (.cells #[I 4] 3))
structure BoardN (w W : World) : Prop where
  bel : Below w.heap.size w W
  rows : Rows2 W (.slice (some ⟨w.heap.size + 1 + 1 + 1, 0, none⟩) 3 3) boardR
  own : Ints W (.slice (some ⟨w.heap.size + 1 + 1 + 1 + 1, 0, none⟩) 3 3) [0, 1, 2]
  c0 : W.cell? ⟨w.heap.size + 1 + 1 + 1 + 1 + 1, 0, none⟩ = some (.slice (some ⟨w.heap.size + 1 + 1 + 1, 0, none⟩) 3 3)
  c1 : W.cell? ⟨w.heap.size + 1 + 1 + 1 + 1 + 1, 1, none⟩ = some (.slice (some ⟨w.heap.size + 1 + 1 + 1 + 1, 0, none⟩) 3 3)
  rnd : Ints W (.slice (some ⟨w.heap.size + 1 + 1 + 1 + 1 + 1 + 1, 0, none⟩) 1 1) [4]
theorem board_laid (w : World) : BoardN w (boardW w) := by
  unfold boardW
  generalize hA : w.alloc (.cells #[I 1, I 1] 3) = A
  have zA : A.heap.size = w.heap.size + 1 := by rw [← hA]; simp
  have bA : Below w.heap.size w A := by rw [← hA]; exact (Below.refl _ _).alloc (Nat.le_refl _) _
  have iA : Ints A (.slice (some ⟨w.heap.size, 0, none⟩) 2 2) [1, 1] := by rw [← hA]; exact Ints.newAt w [1, 1] _ 2 _ rfl rfl rfl (by decide)
  generalize hB : A.alloc (.cells #[I 1, I 2] 3) = B
  have zB : B.heap.size = w.heap.size + 1 + 1 := by rw [← hB]; simp; omega
  have bB : Below A.heap.size A B := by rw [← hB]; exact (Below.refl _ _).alloc (Nat.le_refl _) _
  have iB : Ints B (.slice (some ⟨w.heap.size + 1, 0, none⟩) 2 2) [1, 2] := by rw [← hB]; exact Ints.newAt A [1, 2] _ 2 _ zA.symm rfl rfl (by decide)
  generalize hC : B.alloc (.cells #[I 1, I 3] 3) = C
  have zC : C.heap.size = w.heap.size + 1 + 1 + 1 := by rw [← hC]; simp; omega
  have bC : Below B.heap.size B C := by rw [← hC]; exact (Below.refl _ _).alloc (Nat.le_refl _) _
  have iC : Ints C (.slice (some ⟨w.heap.size + 1 + 1, 0, none⟩) 2 2) [1, 3] := by rw [← hC]; exact Ints.newAt B [1, 3] _ 2 _ zB.symm rfl rfl (by decide)
  have hR := Rows2.new3 C _ _ _ [1, 1] [1, 2] [1, 3] _ 23 zC.symm ((iA.below bB).below bC) (iB.below bC) iC
  generalize hD : C.alloc (.cells #[.slice (some ⟨w.heap.size, 0, none⟩) 2 2, .slice (some ⟨w.heap.size + 1, 0, none⟩) 2 2, .slice (some ⟨w.heap.size + 1 + 1, 0, none⟩) 2 2] 23) = D at hR
  have zD : D.heap.size = w.heap.size + 1 + 1 + 1 + 1 := by rw [← hD]; simp; omega
  have bD : Below C.heap.size C D := by rw [← hD]; exact (Below.refl _ _).alloc (Nat.le_refl _) _
  generalize hE : D.alloc (.cells #[I 0, I 1, I 2] 3) = E
  have zE : E.heap.size = w.heap.size + 1 + 1 + 1 + 1 + 1 := by rw [← hE]; simp; omega
  have bE : Below D.heap.size D E := by rw [← hE]; exact (Below.refl _ _).alloc (Nat.le_refl _) _
  have iE : Ints E (.slice (some ⟨w.heap.size + 1 + 1 + 1 + 1, 0, none⟩) 3 3) [0, 1, 2] := by rw [← hE]; exact Ints.newAt D [0, 1, 2] _ 3 _ zD.symm rfl rfl (by decide)
  generalize hF : E.alloc (.cells #[.slice (some ⟨w.heap.size + 1 + 1 + 1, 0, none⟩) 3 3, .slice (some ⟨w.heap.size + 1 + 1 + 1 + 1, 0, none⟩) 3 3] 25) = F
  have zF : F.heap.size = w.heap.size + 1 + 1 + 1 + 1 + 1 + 1 := by rw [← hF]; simp; omega
  have bF : Below E.heap.size E F := by rw [← hF]; exact (Below.refl _ _).alloc (Nat.le_refl _) _
  have f0 : F.cell? ⟨w.heap.size + 1 + 1 + 1 + 1 + 1, 0, none⟩ = some (.slice (some ⟨w.heap.size + 1 + 1 + 1, 0, none⟩) 3 3) := by rw [← hF, ← zE, World.cell?_alloc_new]; rfl
  have f1 : F.cell? ⟨w.heap.size + 1 + 1 + 1 + 1 + 1, 1, none⟩ = some (.slice (some ⟨w.heap.size + 1 + 1 + 1 + 1, 0, none⟩) 3 3) := by rw [← hF, ← zE, World.cell?_alloc_new]; rfl
  have bG : Below F.heap.size F (F.alloc (.cells #[I 4] 3)) := (Below.refl _ _).alloc (Nat.le_refl _) _
  refine ⟨?_, ((hR.below bE).below bF).below bG, (iE.below bF).below bG, keep bG f0, keep bG f1, Ints.newAt F [4] _ 1 _ zF.symm rfl rfl (by decide)⟩
  exact (((((bA.trans (bB.mono (by omega))).trans (bC.mono (by omega))).trans (bD.mono (by omega))).trans (bE.mono (by omega))).trans (bF.mono (by omega))).trans (bG.mono (by omega))

/-- Pairs laid anew. -/
theorem Pairs.new2 (w : World) (x y : Pr) : Pairs (w.alloc (.cells #[I x.kp, I x.no, I x.d, I x.e, I y.kp, I y.no, I y.d, I y.e] 85)) (.slice (some ⟨w.heap.size, 0, none⟩) 2 2) [x, y] := by
  refine ⟨_, _, rfl, ⟨Nat.le_refl _, fun h => by cases h⟩, (show 2 ≤ 140737488355328 by decide), fun i hi => ⟨_, rfl, ?_⟩⟩
  have e : (⟨w.heap.size, 0, none⟩ : Addr).add (i * 4) = ⟨w.heap.size, i * 4, none⟩ := by unfold Addr.add; split <;> simp_all
  rw [e]
  have h3 : i = 0 ∨ i = 1 := by simp at hi; omega
  rcases h3 with rfl | rfl <;> exact ⟨by rw [World.cell?_alloc_new]; rfl, by rw [World.cell?_alloc_new]; rfl, by rw [World.cell?_alloc_new]; rfl, by rw [World.cell?_alloc_new]; rfl, rfl⟩
theorem Pairs.new1 (w : World) (x : Pr) : Pairs (w.alloc (.cells #[I x.kp, I x.no, I x.d, I x.e] 85)) (.slice (some ⟨w.heap.size, 0, none⟩) 1 1) [x] := by
  refine ⟨_, _, rfl, ⟨Nat.le_refl _, fun h => by cases h⟩, (show 1 ≤ 140737488355328 by decide), fun i hi => ⟨_, rfl, ?_⟩⟩
  have e : (⟨w.heap.size, 0, none⟩ : Addr).add (i * 4) = ⟨w.heap.size, i * 4, none⟩ := by unfold Addr.add; split <;> simp_all
  rw [e]
  have h3 : i = 0 := by simp at hi; omega
  subst h3
  exact ⟨by rw [World.cell?_alloc_new]; rfl, by rw [World.cell?_alloc_new]; rfl, by rw [World.cell?_alloc_new]; rfl, by rw [World.cell?_alloc_new]; rfl, rfl⟩
theorem Pairs.nil (w : World) : Pairs w (.slice none 0 0) [] := ⟨none, 0, rfl, ⟨Nat.le_refl _, fun _ => rfl⟩, Nat.zero_le _, fun i hi => by simp at hi⟩
/-- The example's two pairs. -/
noncomputable def pA : Pr := Kp.pr ⟨0, 0, 5, 6⟩
noncomputable def pB : Pr := Kp.pr ⟨2, 2, 7, 8⟩
theorem board_of0 : ofK [0, 1, 2] 0 (dealt boardR [10, 4]) = [(0, 14)] := by rw [board_dealt]; decide
theorem board_of2 : ofK [0, 1, 2] 2 (dealt boardR [10, 4]) = [(2, 22)] := by rw [board_dealt]; decide
theorem make0 : makeR 0 boardR [0, 1, 2] (commitsOf [10, 4]) txt4 [pA, pB] 0 [(0, 14)] 5 6 = (board_honest.z ⟨0, 0, 5, 6⟩, 0) := by
  have h := board_honest.z_eq ⟨0, 0, 5, 6⟩ (by simp [L2])
  rw [board_of0] at h
  exact h
theorem make2 : makeR 0 boardR [0, 1, 2] (commitsOf [10, 4]) txt4 [pA, pB] 2 [(2, 22)] 7 8 = (board_honest.z ⟨2, 2, 7, 8⟩, 0) := by
  have h := board_honest.z_eq ⟨2, 2, 7, 8⟩ (by simp [L2])
  rw [board_of2] at h
  exact h
theorem make1 : makeR 0 boardR [0, 1, 2] (commitsOf [10, 4]) txt4 [pA, pB] 1 [(1, 18)] 7 8 = (0, 1) := by
  unfold makeR
  have hb : begE 0 boardR [0, 1, 2] (commitsOf [10, 4]) txt4.length [pA, pB] = 0 := board_honest.beg
  have hi : idx (isKp 1) [pA, pB] = -1 := idx_none (by
    intro x hx
    simp at hx
    rcases hx with rfl | rfl <;> rfl)
  rw [if_neg (by rw [hb]; decide), hi, if_pos (.inl (by decide))]
theorem board_head : (commitsOf [10, 4]).headD 0 = ex 10 := board_honest.head
/-- The example's numbers agree. -/
theorem board_sum (b0 b1 ch : Int) (h0 : (bindN (ex 10) txt4 (allV [pA, pB]) 0 : Int) = b0) (h1 : (bindN (ex 10) txt4 (allV [pA, pB]) 2 : Int) = b1) (hc : chN (ex 10) txt4 [pA, pB] = ch) :
    add (board_honest.z ⟨0, 0, 5, 6⟩) (board_honest.z ⟨2, 2, 7, 8⟩) = add (mul b0 6) (add (mul b1 8) (add 12 (mul ch 10))) ∧ verB (ex 10) txt4 ch (add (mul b0 6) (add (mul b1 8) (add 12 (mul ch 10)))) = true := by
  have hp := parts_md board_honest.prog board_honest.len L2 (incr_nodup board_honest.inc) board_honest.acc (fun x => (bindN (ex 10) txt4 (allV [pA, pB]) x.kp : Int)) ch board_honest.z (by
    intro x hx
    have := board_honest.z_md x hx
    rw [← hc]
    exact this)
  have e1 : (L2.map board_honest.z).sum = board_honest.z ⟨0, 0, 5, 6⟩ + board_honest.z ⟨2, 2, 7, 8⟩ := by
    show board_honest.z ⟨0, 0, 5, 6⟩ + (board_honest.z ⟨2, 2, 7, 8⟩ + 0) = _
    omega
  have e2 : (L2.map fun x => x.d + x.f * (bindN (ex 10) txt4 (allV [pA, pB]) x.kp : Int)).sum = (5 + 6 * b0) + (7 + 8 * b1) := by
    rw [← h0, ← h1]
    show (5 + 6 * (bindN (ex 10) txt4 (allV [pA, pB]) 0 : Int)) + ((7 + 8 * (bindN (ex 10) txt4 (allV [pA, pB]) 2 : Int)) + 0) = _
    omega
  have e3 : ([10, 4] : List Int).getD 0 0 = 10 := rfl
  rw [e1, e2, e3] at hp
  have hsec : md (add (mul b0 6) (add (mul b1 8) (add 12 (mul ch 10)))) = md ((5 + 6 * b0) + (7 + 8 * b1) + ch * 10) := by
    unfold add mul
    unfold md; omega
  constructor
  · have h2 : md (add (board_honest.z ⟨0, 0, 5, 6⟩) (board_honest.z ⟨2, 2, 7, 8⟩)) = md (add (mul b0 6) (add (mul b1 8) (add 12 (mul ch 10)))) := by
      rw [hsec, ← hp]; unfold add; rw [md_md]
    have e5 : md (add (board_honest.z ⟨0, 0, 5, 6⟩) (board_honest.z ⟨2, 2, 7, 8⟩)) = add (board_honest.z ⟨0, 0, 5, 6⟩) (board_honest.z ⟨2, 2, 7, 8⟩) := md_md _
    have e6 : md (add (mul b0 6) (add (mul b1 8) (add 12 (mul ch 10)))) = add (mul b0 6) (add (mul b1 8) (add 12 (mul ch 10))) := md_md _
    exact (e5.symm.trans h2).trans e6
  · have hv := ver_ok (c := 10) (txt := txt4) (l := L2) (z := add (mul b0 6) (add (mul b1 8) (add 12 (mul ch 10)))) (md_bd _) (by
      rw [hsec, ← e2]
      rw [show chN (ex 10) txt4 (L2.map Kp.pr) = ch from hc]
      rfl)
    rwa [show chN (ex 10) txt4 (L2.map Kp.pr) = ch from hc] at hv
theorem board_point : Sg.vld (prodP (nonceN (ex 10) txt4 (allV [pA, pB])) [pA, pB]) = true := by
  have h : prodP (nonceN (ex 10) txt4 (allV [pA, pB])) [pA, pB] = ex (logN (ex 10) txt4 (allV [pA, pB]) L2) := board_honest.point
  rw [h]
  exact ex_vld _
theorem board_fit : (powP 4 (board_honest.z ⟨0, 0, 5, 6⟩) == wantP boardR [0, 1, 2] (commitsOf [10, 4]) txt4 [pA, pB] pA) = true := by
  have h := board_honest.fit ⟨0, 0, 5, 6⟩ (by simp [L2]) (board_honest.z ⟨0, 0, 5, 6⟩) (board_honest.z_bd _ (by simp [L2]))
  rw [decide_eq_true rfl] at h
  exact h
/-- Parts of the shares. -/
theorem Shares.cut {W : World} {ad : Addr} {c : Nat} {x y z : Int × Int} (h : Shares W (.slice (some ad) 3 c) [x, y, z]) :
    Shares W (.slice (some ad) 1 c) [x] ∧ Shares W (.slice (some (ad.add 4)) 1 (c - 2)) [z] ∧ Shares W (.slice (some (ad.add 2)) 1 (c - 1)) [y] := by
  obtain ⟨A, c', e, ⟨h1, h2⟩, h3, h4⟩ := h
  injection e with e1 e2 e3
  subst e1 e3
  have h1' : 3 ≤ c := h1
  have hadd : ∀ k j, (ad.add k).add j = ad.add (k + j) ∨ True := fun _ _ => .inr trivial
  have ha : ∀ k, 0 < k → (ad.add k).add (0 * 2) = ad.add (k + 0) := fun k _ => by unfold Addr.add; simp
  refine ⟨⟨_, _, rfl, ⟨by show 1 ≤ c; omega, fun e => by cases e⟩, (show 1 ≤ 140737488355328 by decide), fun i hi => ?_⟩, ⟨_, _, rfl, ⟨by show 1 ≤ c - 2; omega, fun e => by cases e⟩, (show 1 ≤ 140737488355328 by decide), fun i hi => ?_⟩, ⟨_, _, rfl, ⟨by show 1 ≤ c - 1; omega, fun e => by cases e⟩, (show 1 ≤ 140737488355328 by decide), fun i hi => ?_⟩⟩
  all_goals
    have hi0 : i = 0 := by simp at hi; omega
    subst hi0
  · obtain ⟨ad', e, h⟩ := h4 0 (by simp); injection e with e; subst e; exact ⟨ad, rfl, h⟩
  · obtain ⟨ad', e, h⟩ := h4 2 (by simp); injection e with e; subst e; exact ⟨_, rfl, by rw [ha 4 (by decide)]; exact h⟩
  · obtain ⟨ad', e, h⟩ := h4 1 (by simp); injection e with e; subst e; exact ⟨_, rfl, by rw [ha 2 (by decide)]; exact h⟩
/-- What the values of an example's part are. -/
def SnV (z e : Int) (j : Nat) (v : Value) (w : World) : Prop :=
  match j with
  | 4 => Pairs w v [pA, pB]
  | 7 => v = .tuple #[I z, I e]
  | _ => True
theorem SnV.below {z e : Int} {w w' : World} (hb : Below w.heap.size w w') : ∀ (j : Nat) (u : Value), SnV z e j u w → SnV z e j u w' := by
  intro j u h
  unfold SnV at *
  split at h
  · exact h.below hb
  · exact h
  · trivial
/-- What lies when the examples begin. -/
structure SaneN (ka kb kk kt : Nat) (vr vo vc : Value) (W : World) : Prop where
  a0 : W.cell? ⟨ka, 0, none⟩ = some (I 0)
  a1 : W.cell? ⟨ka, 1, none⟩ = some (I 0)
  a2 : W.cell? ⟨ka, 2, none⟩ = some (I (ex 5))
  a3 : W.cell? ⟨ka, 3, none⟩ = some (I (ex 6))
  b0 : W.cell? ⟨kb, 0, none⟩ = some (I 2)
  b1 : W.cell? ⟨kb, 1, none⟩ = some (I 2)
  b2 : W.cell? ⟨kb, 2, none⟩ = some (I (ex 7))
  b3 : W.cell? ⟨kb, 3, none⟩ = some (I (ex 8))
  k0 : W.cell? ⟨kk, 0, none⟩ = some (I 0)
  k1 : W.cell? ⟨kk, 1, none⟩ = some vr
  k2 : W.cell? ⟨kk, 2, none⟩ = some vo
  k3 : W.cell? ⟨kk, 3, none⟩ = some vc
  txt : Bytes W (.slice (some ⟨kt, 0, none⟩) 4 4) txt4
theorem SaneN.below {ka kb kk kt : Nat} {vr vo vc : Value} {W W' : World} (h : SaneN ka kb kk kt vr vo vc W) (hb : Below W.heap.size W W') : SaneN ka kb kk kt vr vo vc W' :=
  ⟨keep hb h.a0, keep hb h.a1, keep hb h.a2, keep hb h.a3, keep hb h.b0, keep hb h.b1, keep hb h.b2, keep hb h.b3, keep hb h.k0, keep hb h.k1, keep hb h.k2, keep hb h.k3, h.txt.below hb⟩
noncomputable abbrev saneW (_w2 w3 : World) (vr vo vc : Value) : World :=
  ((w3.alloc (.cells #[I 2, I 2, I (ex 7), I (ex 8)] 85)).alloc (.cells #[I 0, vr, vo, vc] 27)).alloc (.cells #[.int .u8 116, .int .u8 101, .int .u8 120, .int .u8 116] 5 (4, 5))
theorem sane_laid (w2 w3 : World) (vr vo vc : Value) (hb : Below (w2.alloc (.cells #[I 0, I 0, I (ex 5), I (ex 6)] 85)).heap.size (w2.alloc (.cells #[I 0, I 0, I (ex 5), I (ex 6)] 85)) w3) :
    SaneN w2.heap.size w3.heap.size (w3.heap.size + 1) (w3.heap.size + 1 + 1) vr vo vc (saneW w2 w3 vr vo vc) ∧ Below w3.heap.size w3 (saneW w2 w3 vr vo vc) ∧ (saneW w2 w3 vr vo vc).heap.size = w3.heap.size + 3 := by
  unfold saneW
  have hA : ∀ i v, (#[I 0, I 0, I (ex 5), I (ex 6)] : Array Value)[i]? = some v → w3.cell? ⟨w2.heap.size, i, none⟩ = some v := fun i v h => keep hb (by rw [World.cell?_alloc_new]; exact h)
  generalize hA1 : w3.alloc (.cells #[I 2, I 2, I (ex 7), I (ex 8)] 85) = A
  have zA : A.heap.size = w3.heap.size + 1 := by rw [← hA1]; simp
  have bA : Below w3.heap.size w3 A := by rw [← hA1]; exact (Below.refl _ _).alloc (Nat.le_refl _) _
  have cA : ∀ i v, (#[I 2, I 2, I (ex 7), I (ex 8)] : Array Value)[i]? = some v → A.cell? ⟨w3.heap.size, i, none⟩ = some v := fun i v h => by rw [← hA1, World.cell?_alloc_new]; exact h
  generalize hB1 : A.alloc (.cells #[I 0, vr, vo, vc] 27) = B
  have zB : B.heap.size = w3.heap.size + 1 + 1 := by rw [← hB1]; simp; omega
  have bB : Below A.heap.size A B := by rw [← hB1]; exact (Below.refl _ _).alloc (Nat.le_refl _) _
  have cB : ∀ i v, (#[I 0, vr, vo, vc] : Array Value)[i]? = some v → B.cell? ⟨w3.heap.size + 1, i, none⟩ = some v := fun i v h => by rw [← hB1, ← zA, World.cell?_alloc_new]; exact h
  have bC : Below B.heap.size B (B.alloc (.cells #[.int .u8 116, .int .u8 101, .int .u8 120, .int .u8 116] 5 (4, 5))) := (Below.refl _ _).alloc (Nat.le_refl _) _
  have kA : ∀ i v, (#[I 0, I 0, I (ex 5), I (ex 6)] : Array Value)[i]? = some v → _ := fun i v h => keep bC (keep bB (keep bA (hA i v h)))
  have kB : ∀ i v, (#[I 2, I 2, I (ex 7), I (ex 8)] : Array Value)[i]? = some v → _ := fun i v h => keep bC (keep bB (cA i v h))
  have kK : ∀ i v, (#[I 0, vr, vo, vc] : Array Value)[i]? = some v → _ := fun i v h => keep bC (cB i v h)
  refine ⟨⟨kA 0 _ rfl, kA 1 _ rfl, kA 2 _ rfl, kA 3 _ rfl, kB 0 _ rfl, kB 1 _ rfl, kB 2 _ rfl, kB 3 _ rfl, kK 0 _ rfl, kK 1 _ rfl, kK 2 _ rfl, kK 3 _ rfl, ?_⟩, ?_, by simp; omega⟩
  · refine ⟨_, _, rfl, ⟨Nat.le_refl _, fun h => by cases h⟩, (show 4 ≤ 140737488355328 by decide), fun i hi => ⟨_, rfl, ?_⟩⟩
    have e : (⟨w3.heap.size + 1 + 1, 0, none⟩ : Addr).add (i * 1) = ⟨w3.heap.size + 1 + 1, i, none⟩ := by unfold Addr.add; split <;> simp_all
    rw [e]
    show World.cell? _ _ = _
    rw [← zB, cell_of_row _ B.heap.size i _ _ _ (heap_alloc_new B _)]
    have h4 : i = 0 ∨ i = 1 ∨ i = 2 ∨ i = 3 := by simp [txt4] at hi; omega
    rcases h4 with rfl | rfl | rfl | rfl <;> rfl
  · exact (bA.trans (bB.mono (by omega))).trans (bC.mono (by omega))

set_option maxRecDepth 100000 in
set_option maxHeartbeats 4000000 in
theorem sane_law (w : World) (hg : Glob w) :
    Calls Tryz.prog 15 #[] w fun e w' => e = .returned (.bool true) ∧ Below w.heap.size w w' := by
  have HG := Lib.hid hg
  have hbd := board_laid w
  obtain ⟨W, hW⟩ : ∃ W, boardW w = W := ⟨_, rfl⟩
  rw [hW] at hbd
  unfold boardW at hW
  have HBD := Lib.hid hbd
  have c0 := hbd.c0
  have c1 := hbd.c1
  clear hg hbd
  go_enter Tryz.func15, Tryz.ntmps15
  go_wp2_with fail
  refine (deal_any _ _ _ boardR [0, 1, 2] 10 [4] W HBD.out.rows HBD.out.own HBD.out.rnd board_dealErr).mono ?_
  rintro e w1 ⟨vl, vc, rfl, hl, hc, hb1⟩
  obtain ⟨Al, cl, rfl, _⟩ := hl.shape
  obtain ⟨Ac, cc, rfl, _⟩ := hc.shape
  rw [board_dealt] at hl ⊢
  have HL := Lib.hid hl
  have HC := Lib.hid hc
  have HB1 : Hid (Below w.heap.size w w1) := Lib.hid (HBD.out.bel.trans (hb1.mono HBD.out.bel.size))
  replace c0 := keep hb1 c0
  replace c1 := keep hb1 c1
  have HR1 := Lib.hid (HBD.out.rows.below hb1)
  have HO1 := Lib.hid (HBD.out.own.below hb1)
  clear hb1 hl hc hW
  go_wp2_with fail
  refine (pair_law 0 5 6 _ (by decide) (by decide)).mono ?_
  rintro e w2 ⟨rfl, hb2⟩
  have HB2 := Lib.hid hb2
  clear hb2
  go_wp2_with fail
  refine (pair_law 2 7 8 _ (by decide) (by decide)).mono ?_
  rintro e w3 ⟨rfl, hb3⟩
  obtain ⟨hsn, hbs, hzs⟩ := sane_laid w2 w3 (.slice (some ⟨w.heap.size + 1 + 1 + 1, 0, none⟩) 3 3) (.slice (some ⟨w.heap.size + 1 + 1 + 1 + 1, 0, none⟩) 3 3) (.slice Ac (commitsOf [10, 4]).length cc) hb3
  obtain ⟨wS, hwS⟩ : ∃ wS, saneW w2 w3 (.slice (some ⟨w.heap.size + 1 + 1 + 1, 0, none⟩) 3 3) (.slice (some ⟨w.heap.size + 1 + 1 + 1 + 1, 0, none⟩) 3 3) (.slice Ac (commitsOf [10, 4]).length cc) = wS := ⟨_, rfl⟩
  rw [hwS] at hsn hbs hzs
  unfold saneW at hwS
  have hcv : (convert 28 28 (.slice (some ⟨w3.heap.size + 1 + 1, 0, none⟩) 4 4)).run Tryz.prog (((w3.alloc (.cells #[I 2, I 2, I (ex 7), I (ex 8)] 85)).alloc (.cells #[I 0, .slice (some ⟨w.heap.size + 1 + 1 + 1, 0, none⟩) 3 3, .slice (some ⟨w.heap.size + 1 + 1 + 1 + 1, 0, none⟩) 3 3, .slice Ac (commitsOf [10, 4]).length cc] 27)).alloc (.cells #[.int .u8 116, .int .u8 101, .int .u8 120, .int .u8 116] 5)) = .ok (.slice (some ⟨w3.heap.size + 1 + 1, 0, none⟩) 4 4) wS := by
    have h := Lib.run_convert_bytes_const (P := Tryz.prog) ((w3.alloc (.cells #[I 2, I 2, I (ex 7), I (ex 8)] 85)).alloc (.cells #[I 0, .slice (some ⟨w.heap.size + 1 + 1 + 1, 0, none⟩) 3 3, .slice (some ⟨w.heap.size + 1 + 1 + 1 + 1, 0, none⟩) 3 3, .slice Ac (commitsOf [10, 4]).length cc] 27)) 28 5 #[.int .u8 116, .int .u8 101, .int .u8 120, .int .u8 116] 4 4 Tryz.underlying28 under_u8
    rw [World.size_alloc, World.size_alloc] at h
    rw [← hwS]
    exact h
  have HB13 : Hid (Below w1.heap.size w1 w3) := Lib.hid (by
    have h2 := HB2.out
    have hA : Below w2.heap.size w2 (w2.alloc (.cells #[I 0, I 0, I (ex 5), I (ex 6)] 85)) := (Below.refl _ _).alloc (Nat.le_refl _) _
    exact (h2.trans (hA.mono h2.size)).trans (hb3.mono (by have := h2.size; simp; omega)))
  have HB1S : Hid (Below w1.heap.size w1 wS) := Lib.hid (HB13.out.trans (hbs.mono HB13.out.size))
  have HBS : Hid (Below w.heap.size w wS) := Lib.hid (HB1.out.trans (HB1S.out.mono HB1.out.size))
  have HSN := Lib.hid hsn
  replace c0 := keep HB13.out c0
  replace c1 := keep HB13.out c1
  have HZS := Lib.hid hzs
  obtain ⟨a0, a1, a2, a3, b0, b1, b2, b3, k0, k1, k2, k3, _⟩ := HSN.out
  have c0b := keepA (.cells #[I 2, I 2, I (ex 7), I (ex 8)] 85) c0
  have c1b := keepA (.cells #[I 2, I 2, I (ex 7), I (ex 8)] 85) c1
  clear hb3 hsn hbs hzs
  have HALL : Hid (∀ A : World, Below wS.heap.size wS A → Rows2 A (.slice (some ⟨w.heap.size + 1 + 1 + 1, 0, none⟩) 3 3) boardR ∧ Ints A (.slice (some ⟨w.heap.size + 1 + 1 + 1 + 1, 0, none⟩) 3 3) [0, 1, 2] ∧ Ints A (.slice Ac (commitsOf [10, 4]).length cc) (commitsOf [10, 4]) ∧ Bytes A (.slice (some ⟨w3.heap.size + 1 + 1, 0, none⟩) 4 4) txt4 ∧ Glob A ∧ Shares A (.slice Al 3 cl) [(0, 14), (1, 18), (2, 22)]) := Lib.hid (fun A hA =>
    ⟨(HR1.out.below HB1S.out).below hA, (HO1.out.below HB1S.out).below hA, (HC.out.below HB1S.out).below hA, HSN.out.txt.below hA, HG.out.below (HBS.out.trans (hA.mono HBS.out.size)), (HL.out.below HB1S.out).below hA⟩)
  go_wp2_with fail
  clear c0 c1 c0b c1b
  have hp4 : Below wS.heap.size wS (wS.alloc (.cells #[I 0, I 0, I (ex 5), I (ex 6), I 2, I 2, I (ex 7), I (ex 8)] 85)) := (Below.refl _ _).alloc (Nat.le_refl _) _
  obtain ⟨h1, h2, h3, h4, h5, h6⟩ := HALL.out _ hp4
  refine (bindAll_any 0 _ _ _ _ _ boardR [0, 1, 2] (commitsOf [10, 4]) txt4 [pA, pB] _ h1 h2 h3 h4 (Pairs.new2 wS pA pB) h5).mono ?_
  rintro e w4 ⟨hbr, hb4⟩
  rcases hbr with ⟨hne, _⟩ | ⟨_, vb, rfl, hvb⟩
  · exact absurd board_honest.beg hne
  have HX4 : Hid (Below wS.heap.size wS w4) := Lib.hid (hp4.trans (hb4.mono hp4.size))
  replace a0 := keep HX4.out a0
  replace a1 := keep HX4.out a1
  replace a2 := keep HX4.out a2
  replace a3 := keep HX4.out a3
  replace b0 := keep HX4.out b0
  replace b1 := keep HX4.out b1
  replace b2 := keep HX4.out b2
  replace b3 := keep HX4.out b3
  replace k0 := keep HX4.out k0
  replace k1 := keep HX4.out k1
  replace k2 := keep HX4.out k2
  replace k3 := keep HX4.out k3
  obtain ⟨Ab, cb, rfl, _⟩ := hvb.shape
  have HVB := Lib.hid hvb
  rw [show (bindsOf ((commitsOf [10, 4]).headD 0) txt4 [pA, pB]).length = 2 from rfl]
  obtain ⟨pt, hpt⟩ : ∃ pt, prodP (nonceN ((commitsOf [10, 4]).headD 0) txt4 (allV [pA, pB])) [pA, pB] = pt := ⟨_, rfl⟩
  obtain ⟨ch, hch⟩ : ∃ ch, chN ((commitsOf [10, 4]).headD 0) txt4 [pA, pB] = ch := ⟨_, rfl⟩
  rw [hpt, hch]
  have HPT := Lib.hid hpt
  have HCH := Lib.hid hch
  have HALL0 := HALL
  have HXS4 := HX4
  have HBW4 : Hid (Below w.heap.size w w4) := Lib.hid (HBS.out.trans (HX4.out.mono HBS.out.size))
  have HSN4 := Lib.hid (HSN.out.below HX4.out)
  clear HALL HSN HX4
  have HALL : Hid (∀ A : World, Below w4.heap.size w4 A → Rows2 A (.slice (some ⟨w.heap.size + 1 + 1 + 1, 0, none⟩) 3 3) boardR ∧ Ints A (.slice (some ⟨w.heap.size + 1 + 1 + 1 + 1, 0, none⟩) 3 3) [0, 1, 2] ∧ Ints A (.slice Ac (commitsOf [10, 4]).length cc) (commitsOf [10, 4]) ∧ Bytes A (.slice (some ⟨w3.heap.size + 1 + 1, 0, none⟩) 4 4) txt4 ∧ Glob A ∧ Shares A (.slice Al 3 cl) [(0, 14), (1, 18), (2, 22)]) := Lib.hid (fun A hA => HALL0.out A (HXS4.out.trans (hA.mono HXS4.out.size)))
  have HSN := HSN4
  have HX4 : Hid (Below w4.heap.size w4 w4) := Lib.hid (Below.refl _ _)
  clear hp4 h1 h2 h3 h4 h5 h6 hb4 hvb hpt hch hwS hcv
  go_wp2_with fail
  obtain ⟨h1, h2, h3, h4, h5, h6⟩ := HALL.out _ HX4.out
  refine (bindAll_any 0 _ _ _ _ _ boardR [0, 1, 2] (commitsOf [10, 4]) txt4 [] _ h1 h2 h3 h4 (Pairs.nil w4) h5).mono ?_
  rintro e w5 ⟨hbr, hb5⟩
  rcases hbr with ⟨_, rfl⟩ | ⟨he, _⟩
  rotate_left
  · rw [board_nil] at he; exact absurd he (by decide)
  rw [board_nil]
  have HX5 : Hid (Below w4.heap.size w4 w5) := Lib.hid (HX4.out.trans (hb5.mono HX4.out.size))
  replace a0 := keep hb5 a0
  replace a1 := keep hb5 a1
  replace a2 := keep hb5 a2
  replace a3 := keep hb5 a3
  replace b0 := keep hb5 b0
  replace b1 := keep hb5 b1
  replace b2 := keep hb5 b2
  replace b3 := keep hb5 b3
  replace k0 := keep hb5 k0
  replace k1 := keep hb5 k1
  replace k2 := keep hb5 k2
  replace k3 := keep hb5 k3
  clear h1 h2 h3 h4 h5 h6 hb5
  go_wp2_with fail
  have hp5 : Below w5.heap.size w5 (w5.alloc (.cells #[I 0, I 0, I (ex 5), I (ex 6)] 85)) := (Below.refl _ _).alloc (Nat.le_refl _) _
  obtain ⟨h1, h2, h3, h4, h5, h6⟩ := HALL.out _ (HX5.out.trans (hp5.mono HX5.out.size))
  refine (bindAll_any 0 _ _ _ _ _ boardR [0, 1, 2] (commitsOf [10, 4]) txt4 [Kp.pr ⟨0, 0, 5, 6⟩] _ h1 h2 h3 h4 (Pairs.new1 w5 (Kp.pr ⟨0, 0, 5, 6⟩)) h5).mono ?_
  rintro e w6 ⟨hbr, hb6⟩
  rcases hbr with ⟨_, rfl⟩ | ⟨he, _⟩
  rotate_left
  · rw [board_one] at he; exact absurd he (by decide)
  rw [board_one]
  have hx6 : Below w5.heap.size w5 w6 := hp5.trans (hb6.mono hp5.size)
  have HX6 : Hid (Below w4.heap.size w4 w6) := Lib.hid (HX5.out.trans (hx6.mono HX5.out.size))
  replace a0 := keep hx6 a0
  replace a1 := keep hx6 a1
  replace a2 := keep hx6 a2
  replace a3 := keep hx6 a3
  replace b0 := keep hx6 b0
  replace b1 := keep hx6 b1
  replace b2 := keep hx6 b2
  replace b3 := keep hx6 b3
  replace k0 := keep hx6 k0
  replace k1 := keep hx6 k1
  replace k2 := keep hx6 k2
  replace k3 := keep hx6 k3
  clear h1 h2 h3 h4 h5 h6 hb6 hp5 hx6
  go_upto_region 12 with (fail)
  obtain ⟨z0, hz0⟩ : ∃ z0, board_honest.z ⟨0, 0, 5, 6⟩ = z0 := ⟨_, rfl⟩
  obtain ⟨z2, hz2⟩ : ∃ z2, board_honest.z ⟨2, 2, 7, 8⟩ = z2 := ⟨_, rfl⟩
  have HZ0 := Lib.hid hz0
  have HZ2 := Lib.hid hz2
  have HSL := Lib.hid (HL.out)
  obtain ⟨Al', cl', e, hcl, hlm, hat⟩ := HL.out
  injection e with e1 e2 e3
  subst e1 e3
  have hcl3 : 3 ≤ cl := hcl.1
  obtain ⟨ad, rfl, _⟩ := hat 0 (by decide)
  clear hz0 hz2 hcl hlm hat
  have hc1 : (1 : Int) ≤ (cl : Int) := by omega
  have hc2 : (2 : Int) ≤ (cl : Int) := by omega
  have hc3 : (3 : Int) ≤ (cl : Int) := by omega
  have hcn : ¬ cl = 2 := by omega
  have hcn1 : ¬ cl = 1 := by omega
  go_cut [23, 24] from 104 to 114 (fun v v' wx => v = I (z0) ∧ v' = I 0 ∧ Hid (Below w4.heap.size w4 wx))
  case first =>
    refine Rely.regionB2 _ _ (by kernel_rfl) [0,1,2,3,5,6] [4,7] [8,9,10,11,12] (SnV (z0) 0) (fun _ => True) (by kernel_rfl) (fun _ _ => trivial) ?_
    (refine Rely.Fx.load ?rlcpa rfl (by kernel_rfl) rfl (Rely.Stab.refl _ _ _) (fun _ hb => ?rlhpa) ?rlkpa; (case rlhpa => (have hr0 := (hb.cell (cell_old k0)).trans k0; have hr1 := (hb.cell (cell_old k1)).trans k1; have hr2 := (hb.cell (cell_old k2)).trans k2; have hr3 := (hb.cell (cell_old k3)).trans k3; go_simp; try rfl)); go_simp)
    (refine Rely.Fx.run ?rlc1 rfl rfl (fun _ _ => ?rlh1) ?rlk1; (case rlh1 => (go_simp; try rfl)); go_simp)
    (refine Rely.Fx.load ?rlcpb rfl (by kernel_rfl) rfl (Rely.Stab.refl _ _ _) (fun _ hb => ?rlhpb) ?rlkpb; (case rlhpb => (have hr0 := (hb.cell (cell_old a0)).trans a0; have hr1 := (hb.cell (cell_old a1)).trans a1; have hr2 := (hb.cell (cell_old a2)).trans a2; have hr3 := (hb.cell (cell_old a3)).trans a3; go_simp; try rfl)); go_simp)
    (refine Rely.Fx.load ?rlcpc rfl (by kernel_rfl) rfl (Rely.Stab.refl _ _ _) (fun _ hb => ?rlhpc) ?rlkpc; (case rlhpc => (have hr0 := (hb.cell (cell_old b0)).trans b0; have hr1 := (hb.cell (cell_old b1)).trans b1; have hr2 := (hb.cell (cell_old b2)).trans b2; have hr3 := (hb.cell (cell_old b3)).trans b3; go_simp; try rfl)); go_simp)
    (refine Rely.Fx.run ?rlc2 rfl rfl (fun _ _ => ?rlh2) ?rlk2; (case rlh2 => (go_simp; try rfl)); go_simp)
    (refine Rely.Fx.run ?rlc3 rfl rfl (fun _ _ => ?rlh3) ?rlk3; (case rlh3 => (go_simp; try rfl)); go_simp)
    refine Rely.Fx.done ?_
    (refine Rely.Lt.step (o := ?rlo4) 109 ?rlho4 ?rlhd4 (by simp) ?rlh4 ?rlk4; (case rlho4 => (simp only [List.getElem?_toArray, List.getElem?_cons_succ, List.getElem?_cons_zero]; rfl)); (case rlhd4 => rfl))
    · intro w' hb hp
      clear hp
      go_wp2
      exact ⟨_, rfl, Pairs.new2 w' pA pB, hb.alloc hb.size _, fun j _ _ u hu => SnV.below ((Below.refl _ _).alloc (Nat.le_refl _) _) j u hu⟩
    intro v4
    go_simp
    (refine Rely.Lt.step (o := ?rlo5) 112 ?rlho5 ?rlhd5 (by simp) ?rlh5 ?rlk5; (case rlho5 => (simp only [List.getElem?_toArray, List.getElem?_cons_succ, List.getElem?_cons_zero]; rfl)); (case rlhd5 => rfl))
    · intro w' hb hp
      have hi : SnV (z0) 0 4 v4 w' := hp.get 4 v4 (by simp) (by kernel_rfl)
      clear hp
      obtain ⟨h1, h2, h3, h4, h5, h6⟩ := HALL.out w' (HX6.out.trans (hb.mono HX6.out.size))
      go_wp2_with fail
      refine (make_any 0 _ _ _ _ v4 _ boardR [0, 1, 2] (commitsOf [10, 4]) txt4 [pA, pB] [(0, 14)] 0 5 6 w' h6.cut.1 h1 h2 h3 h4 hi h5).mono ?_
      rintro r w9 ⟨rfl, hb9⟩
      rw [make0, HZ0.out]
      have HB9 := Lib.hid hb9
      clear hb9 hi h1 h2 h3 h4 h5 h6
      go_wp2
      exact ⟨_, rfl, rfl, hb.trans (HB9.out.mono hb.size), fun j _ _ u hu => SnV.below HB9.out j u hu⟩
    intro v7
    go_simp
    refine Rely.Lt.done ?_
    intro w8 hb hp
    obtain rfl : v7 = .tuple #[I (z0), I 0] := hp.one
    have HCUT : Hid (Below w4.heap.size w4 w8) := Lib.hid (HX6.out.trans (hb.mono HX6.out.size))
    clear hb hp
    (refine Rely.Tg.one (o := ?rlo6) 8 [9,10,11,12] (by kernel_rfl) ?rle6 ?rlho6 ?rlk6; (case rle6 => rfl); (case rlho6 => (simp only [List.getElem?_toArray, List.getElem?_cons_succ, List.getElem?_cons_zero]; rfl)))
    go_wp2
    refine ⟨rfl, ?_⟩
    (refine Rely.Tg.two (o := ?rlo7) (o' := ?rlp7) 9 10 [10,11,12] [9,11,12] (by kernel_rfl) ?rle7 ?rlf7 ?rlho7 ?rlhp7 ?rlk7 ?rlm7; (case rle7 => rfl); (case rlf7 => rfl); (case rlho7 => (simp only [List.getElem?_toArray, List.getElem?_cons_succ, List.getElem?_cons_zero]; rfl)); (case rlhp7 => (simp only [List.getElem?_toArray, List.getElem?_cons_succ, List.getElem?_cons_zero]; rfl)))
    · go_wp2
      refine ⟨rfl, ?_⟩
      (refine Rely.Tg.two (o := ?rlo8) (o' := ?rlp8) 10 11 [11,12] [10,12] (by kernel_rfl) ?rle8 ?rlf8 ?rlho8 ?rlhp8 ?rlk8 ?rlm8; (case rle8 => rfl); (case rlf8 => rfl); (case rlho8 => (simp only [List.getElem?_toArray, List.getElem?_cons_succ, List.getElem?_cons_zero]; rfl)); (case rlhp8 => (simp only [List.getElem?_toArray, List.getElem?_cons_succ, List.getElem?_cons_zero]; rfl)))
      · go_wp2
        refine ⟨rfl, ?_⟩
        (refine Rely.Tg.one (o := ?rlo9) 11 [12] (by kernel_rfl) ?rle9 ?rlho9 ?rlk9; (case rle9 => rfl); (case rlho9 => (simp only [List.getElem?_toArray, List.getElem?_cons_succ, List.getElem?_cons_zero]; rfl)))
        go_wp2
        refine ⟨rfl, ?_⟩
        (refine Rely.Tg.one (o := ?rlo10) 12 [] (by kernel_rfl) ?rle10 ?rlho10 ?rlk10; (case rle10 => rfl); (case rlho10 => (simp only [List.getElem?_toArray, List.getElem?_cons_succ, List.getElem?_cons_zero]; rfl)))
        go_wp2
        refine ⟨rfl, ?_⟩
        refine Rely.Tg.done ?_
        go_wp2
        go_meet
        exact ⟨rfl, rfl, HCUT⟩
      · go_wp2
        refine ⟨rfl, ?_⟩
        (refine Rely.Tg.one (o := ?rlo11) 10 [12] (by kernel_rfl) ?rle11 ?rlho11 ?rlk11; (case rle11 => rfl); (case rlho11 => (simp only [List.getElem?_toArray, List.getElem?_cons_succ, List.getElem?_cons_zero]; rfl)))
        go_wp2
        refine ⟨rfl, ?_⟩
        (refine Rely.Tg.one (o := ?rlo12) 12 [] (by kernel_rfl) ?rle12 ?rlho12 ?rlk12; (case rle12 => rfl); (case rlho12 => (simp only [List.getElem?_toArray, List.getElem?_cons_succ, List.getElem?_cons_zero]; rfl)))
        go_wp2
        refine ⟨rfl, ?_⟩
        refine Rely.Tg.done ?_
        go_wp2
        go_meet
        exact ⟨rfl, rfl, HCUT⟩
    · go_wp2
      refine ⟨rfl, ?_⟩
      (refine Rely.Tg.one (o := ?rlo13) 9 [11,12] (by kernel_rfl) ?rle13 ?rlho13 ?rlk13; (case rle13 => rfl); (case rlho13 => (simp only [List.getElem?_toArray, List.getElem?_cons_succ, List.getElem?_cons_zero]; rfl)))
      go_wp2
      refine ⟨rfl, ?_⟩
      (refine Rely.Tg.one (o := ?rlo14) 11 [12] (by kernel_rfl) ?rle14 ?rlho14 ?rlk14; (case rle14 => rfl); (case rlho14 => (simp only [List.getElem?_toArray, List.getElem?_cons_succ, List.getElem?_cons_zero]; rfl)))
      go_wp2
      refine ⟨rfl, ?_⟩
      (refine Rely.Tg.one (o := ?rlo15) 12 [] (by kernel_rfl) ?rle15 ?rlho15 ?rlk15; (case rle15 => rfl); (case rlho15 => (simp only [List.getElem?_toArray, List.getElem?_cons_succ, List.getElem?_cons_zero]; rfl)))
      go_wp2
      refine ⟨rfl, ?_⟩
      refine Rely.Tg.done ?_
      go_wp2
      go_meet
      exact ⟨rfl, rfl, HCUT⟩
  case rest =>
    obtain ⟨rfl, rfl, hcut⟩ := hcut
    have HX7 := hcut
    clear hcut
    obtain ⟨a0, a1, a2, a3, b0, b1, b2, b3, k0, k1, k2, k3, _⟩ := HSN.out.below HX7.out
    go_upto_region 13 with (fail)
    go_cut [25, 26] from 115 to 125 (fun v v' wx => v = I (z2) ∧ v' = I 0 ∧ Hid (Below w4.heap.size w4 wx))
    case first =>
      refine Rely.regionB2 _ _ (by kernel_rfl) [0,1,2,3,5,6] [4,7] [8,9,10,11,12] (SnV (z2) 0) (fun _ => True) (by kernel_rfl) (fun _ _ => trivial) ?_
      (refine Rely.Fx.load ?rlcqa rfl (by kernel_rfl) rfl (Rely.Stab.refl _ _ _) (fun _ hb => ?rlhqa) ?rlkqa; (case rlhqa => (have hr0 := (hb.cell (cell_old k0)).trans k0; have hr1 := (hb.cell (cell_old k1)).trans k1; have hr2 := (hb.cell (cell_old k2)).trans k2; have hr3 := (hb.cell (cell_old k3)).trans k3; go_simp; try rfl)); go_simp)
      (refine Rely.Fx.run ?rlc16 rfl rfl (fun _ _ => ?rlh16) ?rlk16; (case rlh16 => (go_simp; try rfl)); go_simp)
      (refine Rely.Fx.load ?rlcqb rfl (by kernel_rfl) rfl (Rely.Stab.refl _ _ _) (fun _ hb => ?rlhqb) ?rlkqb; (case rlhqb => (have hr0 := (hb.cell (cell_old a0)).trans a0; have hr1 := (hb.cell (cell_old a1)).trans a1; have hr2 := (hb.cell (cell_old a2)).trans a2; have hr3 := (hb.cell (cell_old a3)).trans a3; go_simp; try rfl)); go_simp)
      (refine Rely.Fx.load ?rlcqc rfl (by kernel_rfl) rfl (Rely.Stab.refl _ _ _) (fun _ hb => ?rlhqc) ?rlkqc; (case rlhqc => (have hr0 := (hb.cell (cell_old b0)).trans b0; have hr1 := (hb.cell (cell_old b1)).trans b1; have hr2 := (hb.cell (cell_old b2)).trans b2; have hr3 := (hb.cell (cell_old b3)).trans b3; go_simp; try rfl)); go_simp)
      (refine Rely.Fx.run ?rlc17 rfl rfl (fun _ _ => ?rlh17) ?rlk17; (case rlh17 => (go_simp; try rfl)); go_simp)
      (refine Rely.Fx.run ?rlc18 rfl rfl (fun _ _ => ?rlh18) ?rlk18; (case rlh18 => (go_simp; try rfl)); go_simp)
      refine Rely.Fx.done ?_
      (refine Rely.Lt.step (o := ?rlo19) 120 ?rlho19 ?rlhd19 (by simp) ?rlh19 ?rlk19; (case rlho19 => (simp only [List.getElem?_toArray, List.getElem?_cons_succ, List.getElem?_cons_zero]; rfl)); (case rlhd19 => rfl))
      · intro w' hb hp
        clear hp
        go_wp2
        exact ⟨_, rfl, Pairs.new2 w' pA pB, hb.alloc hb.size _, fun j _ _ u hu => SnV.below ((Below.refl _ _).alloc (Nat.le_refl _) _) j u hu⟩
      intro v4
      go_simp
      (refine Rely.Lt.step (o := ?rlo20) 123 ?rlho20 ?rlhd20 (by simp) ?rlh20 ?rlk20; (case rlho20 => (simp only [List.getElem?_toArray, List.getElem?_cons_succ, List.getElem?_cons_zero]; rfl)); (case rlhd20 => rfl))
      · intro w' hb hp
        have hi : SnV (z2) 0 4 v4 w' := hp.get 4 v4 (by simp) (by kernel_rfl)
        clear hp
        obtain ⟨h1, h2, h3, h4, h5, h6⟩ := HALL.out w' (HX7.out.trans (hb.mono HX7.out.size))
        go_wp2_with fail
        refine (make_any 0 _ _ _ _ v4 _ boardR [0, 1, 2] (commitsOf [10, 4]) txt4 [pA, pB] [(2, 22)] 2 7 8 w' h6.cut.2.1 h1 h2 h3 h4 hi h5).mono ?_
        rintro r w9 ⟨rfl, hb9⟩
        rw [make2, HZ2.out]
        have HB9 := Lib.hid hb9
        clear hb9 hi h1 h2 h3 h4 h5 h6
        go_wp2
        exact ⟨_, rfl, rfl, hb.trans (HB9.out.mono hb.size), fun j _ _ u hu => SnV.below HB9.out j u hu⟩
      intro v7
      go_simp
      refine Rely.Lt.done ?_
      intro w8 hb hp
      obtain rfl : v7 = .tuple #[I (z2), I 0] := hp.one
      have HCUT : Hid (Below w4.heap.size w4 w8) := Lib.hid (HX7.out.trans (hb.mono HX7.out.size))
      clear hb hp
      (refine Rely.Tg.one (o := ?rlo21) 8 [9,10,11,12] (by kernel_rfl) ?rle21 ?rlho21 ?rlk21; (case rle21 => rfl); (case rlho21 => (simp only [List.getElem?_toArray, List.getElem?_cons_succ, List.getElem?_cons_zero]; rfl)))
      go_wp2
      refine ⟨rfl, ?_⟩
      (refine Rely.Tg.two (o := ?rlo22) (o' := ?rlp22) 9 10 [10,11,12] [9,11,12] (by kernel_rfl) ?rle22 ?rlf22 ?rlho22 ?rlhp22 ?rlk22 ?rlm22; (case rle22 => rfl); (case rlf22 => rfl); (case rlho22 => (simp only [List.getElem?_toArray, List.getElem?_cons_succ, List.getElem?_cons_zero]; rfl)); (case rlhp22 => (simp only [List.getElem?_toArray, List.getElem?_cons_succ, List.getElem?_cons_zero]; rfl)))
      · go_wp2
        refine ⟨rfl, ?_⟩
        (refine Rely.Tg.two (o := ?rlo23) (o' := ?rlp23) 10 11 [11,12] [10,12] (by kernel_rfl) ?rle23 ?rlf23 ?rlho23 ?rlhp23 ?rlk23 ?rlm23; (case rle23 => rfl); (case rlf23 => rfl); (case rlho23 => (simp only [List.getElem?_toArray, List.getElem?_cons_succ, List.getElem?_cons_zero]; rfl)); (case rlhp23 => (simp only [List.getElem?_toArray, List.getElem?_cons_succ, List.getElem?_cons_zero]; rfl)))
        · go_wp2
          refine ⟨rfl, ?_⟩
          (refine Rely.Tg.one (o := ?rlo24) 11 [12] (by kernel_rfl) ?rle24 ?rlho24 ?rlk24; (case rle24 => rfl); (case rlho24 => (simp only [List.getElem?_toArray, List.getElem?_cons_succ, List.getElem?_cons_zero]; rfl)))
          go_wp2
          refine ⟨rfl, ?_⟩
          (refine Rely.Tg.one (o := ?rlo25) 12 [] (by kernel_rfl) ?rle25 ?rlho25 ?rlk25; (case rle25 => rfl); (case rlho25 => (simp only [List.getElem?_toArray, List.getElem?_cons_succ, List.getElem?_cons_zero]; rfl)))
          go_wp2
          refine ⟨rfl, ?_⟩
          refine Rely.Tg.done ?_
          go_wp2
          go_meet
          exact ⟨rfl, rfl, HCUT⟩
        · go_wp2
          refine ⟨rfl, ?_⟩
          (refine Rely.Tg.one (o := ?rlo26) 10 [12] (by kernel_rfl) ?rle26 ?rlho26 ?rlk26; (case rle26 => rfl); (case rlho26 => (simp only [List.getElem?_toArray, List.getElem?_cons_succ, List.getElem?_cons_zero]; rfl)))
          go_wp2
          refine ⟨rfl, ?_⟩
          (refine Rely.Tg.one (o := ?rlo27) 12 [] (by kernel_rfl) ?rle27 ?rlho27 ?rlk27; (case rle27 => rfl); (case rlho27 => (simp only [List.getElem?_toArray, List.getElem?_cons_succ, List.getElem?_cons_zero]; rfl)))
          go_wp2
          refine ⟨rfl, ?_⟩
          refine Rely.Tg.done ?_
          go_wp2
          go_meet
          exact ⟨rfl, rfl, HCUT⟩
      · go_wp2
        refine ⟨rfl, ?_⟩
        (refine Rely.Tg.one (o := ?rlo28) 9 [11,12] (by kernel_rfl) ?rle28 ?rlho28 ?rlk28; (case rle28 => rfl); (case rlho28 => (simp only [List.getElem?_toArray, List.getElem?_cons_succ, List.getElem?_cons_zero]; rfl)))
        go_wp2
        refine ⟨rfl, ?_⟩
        (refine Rely.Tg.one (o := ?rlo29) 11 [12] (by kernel_rfl) ?rle29 ?rlho29 ?rlk29; (case rle29 => rfl); (case rlho29 => (simp only [List.getElem?_toArray, List.getElem?_cons_succ, List.getElem?_cons_zero]; rfl)))
        go_wp2
        refine ⟨rfl, ?_⟩
        (refine Rely.Tg.one (o := ?rlo30) 12 [] (by kernel_rfl) ?rle30 ?rlho30 ?rlk30; (case rle30 => rfl); (case rlho30 => (simp only [List.getElem?_toArray, List.getElem?_cons_succ, List.getElem?_cons_zero]; rfl)))
        go_wp2
        refine ⟨rfl, ?_⟩
        refine Rely.Tg.done ?_
        go_wp2
        go_meet
        exact ⟨rfl, rfl, HCUT⟩
    case rest =>
      obtain ⟨rfl, rfl, hcut⟩ := hcut
      have HX8 := hcut
      clear hcut
      obtain ⟨a0, a1, a2, a3, b0, b1, b2, b3, k0, k1, k2, k3, _⟩ := HSN.out.below HX8.out
      go_upto_region 14 with (fail)
      go_cut [27, 28] from 126 to 136 (fun v v' wx => v = I (0) ∧ v' = I 1 ∧ Hid (Below w4.heap.size w4 wx))
      case first =>
        refine Rely.regionB2 _ _ (by kernel_rfl) [0,1,2,3,5,6] [4,7] [8,9,10,11,12] (SnV (0) 1) (fun _ => True) (by kernel_rfl) (fun _ _ => trivial) ?_
        (refine Rely.Fx.load ?rlcra rfl (by kernel_rfl) rfl (Rely.Stab.refl _ _ _) (fun _ hb => ?rlhra) ?rlkra; (case rlhra => (have hr0 := (hb.cell (cell_old k0)).trans k0; have hr1 := (hb.cell (cell_old k1)).trans k1; have hr2 := (hb.cell (cell_old k2)).trans k2; have hr3 := (hb.cell (cell_old k3)).trans k3; go_simp; try rfl)); go_simp)
        (refine Rely.Fx.run ?rlc31 rfl rfl (fun _ _ => ?rlh31) ?rlk31; (case rlh31 => (go_simp; try rfl)); go_simp)
        (refine Rely.Fx.load ?rlcrb rfl (by kernel_rfl) rfl (Rely.Stab.refl _ _ _) (fun _ hb => ?rlhrb) ?rlkrb; (case rlhrb => (have hr0 := (hb.cell (cell_old a0)).trans a0; have hr1 := (hb.cell (cell_old a1)).trans a1; have hr2 := (hb.cell (cell_old a2)).trans a2; have hr3 := (hb.cell (cell_old a3)).trans a3; go_simp; try rfl)); go_simp)
        (refine Rely.Fx.load ?rlcrc rfl (by kernel_rfl) rfl (Rely.Stab.refl _ _ _) (fun _ hb => ?rlhrc) ?rlkrc; (case rlhrc => (have hr0 := (hb.cell (cell_old b0)).trans b0; have hr1 := (hb.cell (cell_old b1)).trans b1; have hr2 := (hb.cell (cell_old b2)).trans b2; have hr3 := (hb.cell (cell_old b3)).trans b3; go_simp; try rfl)); go_simp)
        (refine Rely.Fx.run ?rlc32 rfl rfl (fun _ _ => ?rlh32) ?rlk32; (case rlh32 => (go_simp; try rfl)); go_simp)
        (refine Rely.Fx.run ?rlc33 rfl rfl (fun _ _ => ?rlh33) ?rlk33; (case rlh33 => (go_simp; try rfl)); go_simp)
        refine Rely.Fx.done ?_
        (refine Rely.Lt.step (o := ?rlo34) 131 ?rlho34 ?rlhd34 (by simp) ?rlh34 ?rlk34; (case rlho34 => (simp only [List.getElem?_toArray, List.getElem?_cons_succ, List.getElem?_cons_zero]; rfl)); (case rlhd34 => rfl))
        · intro w' hb hp
          clear hp
          go_wp2
          exact ⟨_, rfl, Pairs.new2 w' pA pB, hb.alloc hb.size _, fun j _ _ u hu => SnV.below ((Below.refl _ _).alloc (Nat.le_refl _) _) j u hu⟩
        intro v4
        go_simp
        (refine Rely.Lt.step (o := ?rlo35) 134 ?rlho35 ?rlhd35 (by simp) ?rlh35 ?rlk35; (case rlho35 => (simp only [List.getElem?_toArray, List.getElem?_cons_succ, List.getElem?_cons_zero]; rfl)); (case rlhd35 => rfl))
        · intro w' hb hp
          have hi : SnV (0) 1 4 v4 w' := hp.get 4 v4 (by simp) (by kernel_rfl)
          clear hp
          obtain ⟨h1, h2, h3, h4, h5, h6⟩ := HALL.out w' (HX8.out.trans (hb.mono HX8.out.size))
          go_wp2_with fail
          refine (make_any 0 _ _ _ _ v4 _ boardR [0, 1, 2] (commitsOf [10, 4]) txt4 [pA, pB] [(1, 18)] 1 7 8 w' h6.cut.2.2 h1 h2 h3 h4 hi h5).mono ?_
          rintro r w9 ⟨rfl, hb9⟩
          rw [make1]
          have HB9 := Lib.hid hb9
          clear hb9 hi h1 h2 h3 h4 h5 h6
          go_wp2
          exact ⟨_, rfl, rfl, hb.trans (HB9.out.mono hb.size), fun j _ _ u hu => SnV.below HB9.out j u hu⟩
        intro v7
        go_simp
        refine Rely.Lt.done ?_
        intro w8 hb hp
        obtain rfl : v7 = .tuple #[I (0), I 1] := hp.one
        have HCUT : Hid (Below w4.heap.size w4 w8) := Lib.hid (HX8.out.trans (hb.mono HX8.out.size))
        clear hb hp
        (refine Rely.Tg.one (o := ?rlo36) 8 [9,10,11,12] (by kernel_rfl) ?rle36 ?rlho36 ?rlk36; (case rle36 => rfl); (case rlho36 => (simp only [List.getElem?_toArray, List.getElem?_cons_succ, List.getElem?_cons_zero]; rfl)))
        go_wp2
        refine ⟨rfl, ?_⟩
        (refine Rely.Tg.two (o := ?rlo37) (o' := ?rlp37) 9 10 [10,11,12] [9,11,12] (by kernel_rfl) ?rle37 ?rlf37 ?rlho37 ?rlhp37 ?rlk37 ?rlm37; (case rle37 => rfl); (case rlf37 => rfl); (case rlho37 => (simp only [List.getElem?_toArray, List.getElem?_cons_succ, List.getElem?_cons_zero]; rfl)); (case rlhp37 => (simp only [List.getElem?_toArray, List.getElem?_cons_succ, List.getElem?_cons_zero]; rfl)))
        · go_wp2
          refine ⟨rfl, ?_⟩
          (refine Rely.Tg.two (o := ?rlo38) (o' := ?rlp38) 10 11 [11,12] [10,12] (by kernel_rfl) ?rle38 ?rlf38 ?rlho38 ?rlhp38 ?rlk38 ?rlm38; (case rle38 => rfl); (case rlf38 => rfl); (case rlho38 => (simp only [List.getElem?_toArray, List.getElem?_cons_succ, List.getElem?_cons_zero]; rfl)); (case rlhp38 => (simp only [List.getElem?_toArray, List.getElem?_cons_succ, List.getElem?_cons_zero]; rfl)))
          · go_wp2
            refine ⟨rfl, ?_⟩
            (refine Rely.Tg.one (o := ?rlo39) 11 [12] (by kernel_rfl) ?rle39 ?rlho39 ?rlk39; (case rle39 => rfl); (case rlho39 => (simp only [List.getElem?_toArray, List.getElem?_cons_succ, List.getElem?_cons_zero]; rfl)))
            go_wp2
            refine ⟨rfl, ?_⟩
            (refine Rely.Tg.one (o := ?rlo40) 12 [] (by kernel_rfl) ?rle40 ?rlho40 ?rlk40; (case rle40 => rfl); (case rlho40 => (simp only [List.getElem?_toArray, List.getElem?_cons_succ, List.getElem?_cons_zero]; rfl)))
            go_wp2
            refine ⟨rfl, ?_⟩
            refine Rely.Tg.done ?_
            go_wp2
            go_meet
            exact ⟨rfl, rfl, HCUT⟩
          · go_wp2
            refine ⟨rfl, ?_⟩
            (refine Rely.Tg.one (o := ?rlo41) 10 [12] (by kernel_rfl) ?rle41 ?rlho41 ?rlk41; (case rle41 => rfl); (case rlho41 => (simp only [List.getElem?_toArray, List.getElem?_cons_succ, List.getElem?_cons_zero]; rfl)))
            go_wp2
            refine ⟨rfl, ?_⟩
            (refine Rely.Tg.one (o := ?rlo42) 12 [] (by kernel_rfl) ?rle42 ?rlho42 ?rlk42; (case rle42 => rfl); (case rlho42 => (simp only [List.getElem?_toArray, List.getElem?_cons_succ, List.getElem?_cons_zero]; rfl)))
            go_wp2
            refine ⟨rfl, ?_⟩
            refine Rely.Tg.done ?_
            go_wp2
            go_meet
            exact ⟨rfl, rfl, HCUT⟩
        · go_wp2
          refine ⟨rfl, ?_⟩
          (refine Rely.Tg.one (o := ?rlo43) 9 [11,12] (by kernel_rfl) ?rle43 ?rlho43 ?rlk43; (case rle43 => rfl); (case rlho43 => (simp only [List.getElem?_toArray, List.getElem?_cons_succ, List.getElem?_cons_zero]; rfl)))
          go_wp2
          refine ⟨rfl, ?_⟩
          (refine Rely.Tg.one (o := ?rlo44) 11 [12] (by kernel_rfl) ?rle44 ?rlho44 ?rlk44; (case rle44 => rfl); (case rlho44 => (simp only [List.getElem?_toArray, List.getElem?_cons_succ, List.getElem?_cons_zero]; rfl)))
          go_wp2
          refine ⟨rfl, ?_⟩
          (refine Rely.Tg.one (o := ?rlo45) 12 [] (by kernel_rfl) ?rle45 ?rlho45 ?rlk45; (case rle45 => rfl); (case rlho45 => (simp only [List.getElem?_toArray, List.getElem?_cons_succ, List.getElem?_cons_zero]; rfl)))
          go_wp2
          refine ⟨rfl, ?_⟩
          refine Rely.Tg.done ?_
          go_wp2
          go_meet
          exact ⟨rfl, rfl, HCUT⟩
      case rest =>
        obtain ⟨rfl, rfl, hcut⟩ := hcut
        have HX9 := hcut
        clear hcut
        obtain ⟨a0, a1, a2, a3, b0, b1, b2, b3, k0, k1, k2, k3, _⟩ := HSN.out.below HX9.out
        go_wp2_with fail
        have hp9 : Below wc.heap.size wc (wc.alloc (.cells #[I 0, I 0, I (ex 5), I (ex 6), I 2, I 2, I (ex 7), I (ex 8)] 85)) := (Below.refl _ _).alloc (Nat.le_refl _) _
        obtain ⟨h1, h2, h3, h4, h5, h6⟩ := HALL.out _ (HX9.out.trans (hp9.mono HX9.out.size))
        refine (fits_any 0 _ _ _ _ _ boardR [0, 1, 2] (commitsOf [10, 4]) txt4 [pA, pB] 0 1073741789 _ h1 h2 h3 h4 (Pairs.new2 wc pA pB) h5).mono ?_
        rintro e w10 ⟨hfr, hb10⟩
        rcases hfr with ⟨hne, _⟩ | ⟨_, _, rfl⟩ | ⟨_, hod, _⟩
        · exact absurd board_honest.beg hne
        rotate_left
        · exact absurd hod (by decide)
        have hx10 : Below wc.heap.size wc w10 := hp9.trans (hb10.mono hp9.size)
        have HX10 : Hid (Below w4.heap.size w4 w10) := Lib.hid (HX9.out.trans (hx10.mono HX9.out.size))
        replace a0 := keep hx10 a0
        replace a1 := keep hx10 a1
        replace a2 := keep hx10 a2
        replace a3 := keep hx10 a3
        replace b0 := keep hx10 b0
        replace b1 := keep hx10 b1
        replace b2 := keep hx10 b2
        replace b3 := keep hx10 b3
        replace k0 := keep hx10 k0
        replace k1 := keep hx10 k1
        replace k2 := keep hx10 k2
        replace k3 := keep hx10 k3
        clear h1 h2 h3 h4 h5 h6 hb10 hp9 hx10
        go_wp2_with fail
        have hp10 : Below w10.heap.size w10 (w10.alloc (.cells #[I 0, I 0, I (ex 5), I (ex 6), I 2, I 2, I (ex 7), I (ex 8)] 85)) := (Below.refl _ _).alloc (Nat.le_refl _) _
        obtain ⟨h1, h2, h3, h4, h5, h6⟩ := HALL.out _ (HX10.out.trans (hp10.mono HX10.out.size))
        refine (fits_any 0 _ _ _ _ _ boardR [0, 1, 2] (commitsOf [10, 4]) txt4 [pA, pB] 0 z0 _ h1 h2 h3 h4 (Pairs.new2 w10 pA pB) h5).mono ?_
        rintro e w11 ⟨hfr, hb11⟩
        have hixA : idx (isKp 0) [pA, pB] = 0 := idx_some (i := 0) (by simp) rfl (by intro x hx; simp at hx)
        have hz0b : oddQ z0 = false := by
          have := board_honest.z_bd ⟨0, 0, 5, 6⟩ (by simp [L2])
          rw [← HZ0.out]; simp [oddQ]; omega
        rcases hfr with ⟨hne, _⟩ | ⟨_, hbad, _⟩ | ⟨_, _, i, hi, hix, rfl⟩
        · exact absurd board_honest.beg hne
        · exfalso
          rcases hbad with h | h
          · rw [hixA] at h; exact absurd h (by decide)
          · rw [hz0b] at h; exact absurd h (by decide)
        obtain rfl : i = 0 := by rw [hixA] at hix; omega
        rw [show ([pA, pB] : List Pr)[0] = pA from rfl, ← HZ0.out, board_fit, HZ0.out]
        have hx11 : Below w10.heap.size w10 w11 := hp10.trans (hb11.mono hp10.size)
        have HX11 : Hid (Below w4.heap.size w4 w11) := Lib.hid (HX10.out.trans (hx11.mono HX10.out.size))
        have HIX := Lib.hid (And.intro hi hix)
        clear h1 h2 h3 h4 h5 h6 hb11 hp10 hx11 hixA hz0b hi hix a0 a1 a2 a3 b0 b1 b2 b3 k0 k1 k2 k3
        go_upto_region 19 with (fail)
        obtain ⟨h1, h2, h3, h4, h5, h6⟩ := HALL.out _ HX11.out
        obtain ⟨ab, rfl, e0⟩ := (HVB.out.below HX11.out).at 0 (by show 0 < 2; decide)
        obtain ⟨ab2, e9, e1⟩ := (HVB.out.below HX11.out).at 1 (by show 1 < 2; decide)
        injection e9 with e9
        subst e9
        obtain ⟨b0, hb0⟩ : ∃ b0 : Int, (bindN (ex 10) txt4 (allV [pA, pB]) 0 : Int) = b0 := ⟨_, rfl⟩
        obtain ⟨b1, hb1⟩ : ∃ b1 : Int, (bindN (ex 10) txt4 (allV [pA, pB]) 2 : Int) = b1 := ⟨_, rfl⟩
        have g0 : (bindsOf ((commitsOf [10, 4]).headD 0) txt4 [pA, pB])[0]'(by show 0 < 2; decide) = b0 := by rw [← hb0, ← board_head]; rfl
        have g1 : (bindsOf ((commitsOf [10, 4]).headD 0) txt4 [pA, pB])[1]'(by show 1 < 2; decide) = b1 := by rw [← hb1, ← board_head]; rfl
        rw [g0] at e0
        rw [g1] at e1
        rw [show ab.add 0 = ab by unfold Addr.add; rfl] at e0
        rw [show ab.add 1 = ⟨ab.block, ab.off + 1, none⟩ by unfold Addr.add; rfl] at e1
        have hch2 : chN (ex 10) txt4 [pA, pB] = ch := by rw [← board_head]; exact HCH.out
        have HSUM := Lib.hid (board_sum b0 b1 ch hb0 hb1 hch2)
        have HPV : Hid (Sg.vld pt = true) := Lib.hid (by rw [← HPT.out, board_head]; exact board_point)
        have HC11 := Lib.hid h3
        have HT11 := Lib.hid h4
        have HG11 := Lib.hid h5
        clear h1 h2 h3 h4 h5 h6 hb0 hb1 hch2 g0 g1
        obtain ⟨sec, hsec⟩ : ∃ sec, add (mul b0 6) (add (mul b1 8) (add 12 (mul ch 10))) = sec := ⟨_, rfl⟩
        have HSEC := Lib.hid hsec
        rw [hsec] at HSUM
        clear hsec
        refine Rely.regionB _ _ (by kernel_rfl) [0,1,2,3,4,5,6,7,8,9,10,11,12] [] [13] (fun _ _ _ => True) (fun _ => True) (by kernel_rfl) (fun _ _ => trivial) ?_
        (refine Rely.Fx.run ?rlc46 rfl rfl (fun _ _ => ?rlh46) ?rlk46; (case rlh46 => (go_simp; try rfl)); go_simp)
        (refine Rely.Fx.run ?rlc47 rfl rfl (fun _ _ => ?rlh47) ?rlk47; (case rlh47 => (go_simp; try rfl)); go_simp)
        (refine Rely.Fx.load ?rlc48 rfl (by kernel_rfl) rfl (Rely.Stab.refl _ _ _) (fun _ hb => ?rlh48) ?rlk48; (case rlh48 => (have hrl := (hb.cell (cell_old e0)).trans e0; go_simp; try rfl)); go_simp)
        (refine Rely.Fx.call (o := ?rlo49) (I (mul b0 6)) 198 ?rlho49 ?rlhd49 (by simp) (by kernel_rfl) ?rlh49 ?rlk49; (case rlho49 => (simp only [List.getElem?_toArray, List.getElem?_cons_succ, List.getElem?_cons_zero]; rfl)); (case rlhd49 => rfl))
        · intro w' hb
          go_wp2_with fail
          refine (mul_any _ _ _).mono ?_
          rintro r w9 ⟨rfl, rfl⟩
          go_wp2
          exact ⟨_, rfl, rfl, hb, Rely.Stab.none _ _ _ _⟩
        go_simp
        (refine Rely.Fx.run ?rlc50 rfl rfl (fun _ _ => ?rlh50) ?rlk50; (case rlh50 => (go_simp; try rfl)); go_simp)
        (refine Rely.Fx.run ?rlc51 rfl rfl (fun _ _ => ?rlh51) ?rlk51; (case rlh51 => (go_simp; try rfl)); go_simp)
        (refine Rely.Fx.load ?rlc52 rfl (by kernel_rfl) rfl (Rely.Stab.refl _ _ _) (fun _ hb => ?rlh52) ?rlk52; (case rlh52 => (have hrl := (hb.cell (cell_old e1)).trans e1; go_simp; try rfl)); go_simp)
        (refine Rely.Fx.call (o := ?rlo53) (I (mul b1 8)) 202 ?rlho53 ?rlhd53 (by simp) (by kernel_rfl) ?rlh53 ?rlk53; (case rlho53 => (simp only [List.getElem?_toArray, List.getElem?_cons_succ, List.getElem?_cons_zero]; rfl)); (case rlhd53 => rfl))
        · intro w' hb
          go_wp2_with fail
          refine (mul_any _ _ _).mono ?_
          rintro r w9 ⟨rfl, rfl⟩
          go_wp2
          exact ⟨_, rfl, rfl, hb, Rely.Stab.none _ _ _ _⟩
        go_simp
        (refine Rely.Fx.run ?rlc54 rfl rfl (fun _ _ => ?rlh54) ?rlk54; (case rlh54 => (go_simp; try rfl)); go_simp)
        (refine Rely.Fx.call (o := ?rlo55) (I (mul ch 10)) 204 ?rlho55 ?rlhd55 (by simp) (by kernel_rfl) ?rlh55 ?rlk55; (case rlho55 => (simp only [List.getElem?_toArray, List.getElem?_cons_succ, List.getElem?_cons_zero]; rfl)); (case rlhd55 => rfl))
        · intro w' hb
          go_wp2_with fail
          refine (mul_any _ _ _).mono ?_
          rintro r w9 ⟨rfl, rfl⟩
          go_wp2
          exact ⟨_, rfl, rfl, hb, Rely.Stab.none _ _ _ _⟩
        go_simp
        (refine Rely.Fx.call (o := ?rlo56) (I (add 12 (mul ch 10))) 205 ?rlho56 ?rlhd56 (by simp) (by kernel_rfl) ?rlh56 ?rlk56; (case rlho56 => (simp only [List.getElem?_toArray, List.getElem?_cons_succ, List.getElem?_cons_zero]; rfl)); (case rlhd56 => rfl))
        · intro w' hb
          go_wp2_with fail
          refine (add_any _ _ _).mono ?_
          rintro r w9 ⟨rfl, hb9⟩
          go_wp2
          exact ⟨_, rfl, rfl, hb.trans (hb9.mono hb.size), Rely.Stab.none _ _ _ _⟩
        go_simp
        (refine Rely.Fx.call (o := ?rlo57) (I (add (mul b1 8) (add 12 (mul ch 10)))) 206 ?rlho57 ?rlhd57 (by simp) (by kernel_rfl) ?rlh57 ?rlk57; (case rlho57 => (simp only [List.getElem?_toArray, List.getElem?_cons_succ, List.getElem?_cons_zero]; rfl)); (case rlhd57 => rfl))
        · intro w' hb
          go_wp2_with fail
          refine (add_any _ _ _).mono ?_
          rintro r w9 ⟨rfl, hb9⟩
          go_wp2
          exact ⟨_, rfl, rfl, hb.trans (hb9.mono hb.size), Rely.Stab.none _ _ _ _⟩
        go_simp
        (refine Rely.Fx.call (o := ?rlo58) (I sec) 207 ?rlho58 ?rlhd58 (by simp) (by kernel_rfl) ?rlh58 ?rlk58; (case rlho58 => (simp only [List.getElem?_toArray, List.getElem?_cons_succ, List.getElem?_cons_zero]; rfl)); (case rlhd58 => rfl))
        · intro w' hb
          go_wp2_with fail
          refine (add_any _ _ _).mono ?_
          rintro r w9 ⟨rfl, hb9⟩
          rw [HSEC.out]
          go_wp2
          exact ⟨_, rfl, rfl, hb.trans (hb9.mono hb.size), Rely.Stab.none _ _ _ _⟩
        go_simp
        refine Rely.Fx.done ?_
        refine Rely.Lt.done ?_
        intro w12 hb12 _
        have HB12 : Hid (Below w.heap.size w w12) := Lib.hid (HBW4.out.trans ((HX11.out.trans (hb12.mono HX11.out.size)).mono HBW4.out.size))
        have HC12 := Lib.hid (HC11.out.below hb12)
        have HT12 := Lib.hid (HT11.out.below hb12)
        have HG12 := Lib.hid (HG11.out.below hb12)
        obtain ⟨ac, rfl, ec⟩ := HC12.out.at 0 (by decide)
        rw [show ac.add 0 = ac by unfold Addr.add; rfl, show (commitsOf [10, 4])[0]'(by decide) = ex 10 from rfl] at ec
        have hl0 : 0 < (commitsOf [10, 4]).length := by decide
        clear hb12 e0 e1
        (refine Rely.Tl.last (o := ?rlo59) ?rlho59 ?rlk59; (case rlho59 => (simp only [List.getElem?_toArray, List.getElem?_cons_succ, List.getElem?_cons_zero]; rfl)))
        go_wp2
        refine ⟨rfl, ?_⟩
        go_wp2_with fail
        refine (valid_any pt _).mono ?_
        rintro r w9 ⟨rfl, rfl⟩
        rw [HPV.out]
        go_wp2_with fail
        refine (add_any z0 z2 _).mono ?_
        rintro r w13 ⟨rfl, hb13⟩
        have HADD : Hid (add z0 z2 = sec) := Lib.hid (by rw [← HZ0.out, ← HZ2.out]; exact HSUM.out.1)
        rw [HADD.out]
        have HB13' : Hid (Below w.heap.size w w13) := Lib.hid (HB12.out.trans (hb13.mono HB12.out.size))
        have HT13 := Lib.hid (HT12.out.below hb13)
        have HG13 := Lib.hid (HG12.out.below hb13)
        replace ec := keep hb13 ec
        clear hb13
        go_wp2_with fail
        refine (verify_any (ex 10) _ txt4 ch sec _ HT13.out HG13.out (by decide)).mono ?_
        rintro r w14 ⟨rfl, hb14⟩
        rw [HSUM.out.2]
        have HB14 : Hid (Below w.heap.size w w14) := Lib.hid (HB13'.out.trans (hb14.mono HB13'.out.size))
        clear hb14
        go_wp2
        go_ret
        exact ⟨rfl, HB14.out⟩

end Go.Proofs.YtgacdmkhgllceaaGreatDoor
