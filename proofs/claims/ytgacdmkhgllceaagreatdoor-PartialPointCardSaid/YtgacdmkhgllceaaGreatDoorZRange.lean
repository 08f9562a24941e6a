/- A range over a function, for iterators that know ahead what they yield, and may keep a state of their own in cells: one law for the statement, out of the iterator's contract. Over any program. -/
import Derived.Test.YtgacdmkhgllceaaGreatDoorZHead
import Derived.RangeFuncFrom
import Derived.RangeFuncBound
import Derived.RangeFuncCalls
import Derived.RangeFuncLeaves
import Derived.Shelf.Abstract
import Derived.Shelf.RegionOpen
import Derived.WalkKit
import Derived.OwnWalkIn
import Derived.TacticsInMore
import Derived.LoopNIn
import Derived.LoopIn
namespace Go.Proofs.YtgacdmkhgllceaaGreatDoor
open Go.RowKit Go.Shelf

/-- The blocks of which K speaks lie as they lay. -/
structure Same (K : Nat → Prop) (A B : World) : Prop where
  os : B.os = A.os
  tape : B.tape = A.tape
  output : B.output = A.output
  size : A.heap.size ≤ B.heap.size
  block : ∀ k, k < A.heap.size → K k → B.heap[k]? = A.heap[k]?

theorem Same.refl (K : Nat → Prop) (A : World) : Same K A A := ⟨rfl, rfl, rfl, Nat.le_refl _, fun _ _ _ => rfl⟩
theorem Same.trans {K : Nat → Prop} {A B C : World} (h : Same K A B) (k : Same K B C) : Same K A C :=
  ⟨k.os.trans h.os, k.tape.trans h.tape, k.output.trans h.output, Nat.le_trans h.size k.size, fun i hi hk => (k.block i (Nat.lt_of_lt_of_le hi h.size) hk).trans (h.block i hi hk)⟩
theorem Same.mono {K K' : Nat → Prop} {A B : World} (h : Same K A B) (hK : ∀ k, k < A.heap.size → K' k → K k) : Same K' A B :=
  ⟨h.os, h.tape, h.output, h.size, fun i hi hk => h.block i hi (hK i hi hk)⟩
theorem Same.alloc {K : Nat → Prop} {A B : World} (h : Same K A B) (o : Obj) : Same K A (B.alloc o) :=
  ⟨h.os, h.tape, h.output, Nat.le_trans h.size (by simp), fun i hi hk => (Below.heap_alloc B o i (Nat.lt_of_lt_of_le hi h.size)).trans (h.block i hi hk)⟩
theorem Same.drew {K : Nat → Prop} {A B : World} (h : Same K A B) : Same K A B.drew := ⟨h.os, h.tape, h.output, h.size, h.block⟩
theorem Same.setCell {K : Nat → Prop} {A B : World} (h : Same K A B) {a : Addr} (ha : ¬ K a.block ∨ A.heap.size ≤ a.block) (v : Value) : Same K A (B.setCell a v) :=
  ⟨h.os, h.tape, h.output, Nat.le_trans h.size (by simp [World.setCell]), fun i hi hk => (Below.heap_setCell B a v i (fun e => by subst e; rcases ha with ha | ha; exact ha hk; omega)).trans (h.block i hi hk)⟩
theorem Same.putObj {K : Nat → Prop} {A B : World} (h : Same K A B) {l : Nat} (hl : ¬ K l ∨ A.heap.size ≤ l) (o : Obj) : Same K A (B.putObj l o) :=
  ⟨h.os, h.tape, h.output, Nat.le_trans h.size (by simp), fun i hi hk => (World.putObj_heap_other (fun e => by subst e; rcases hl with hl | hl; exact hl hk; omega)).trans (h.block i hi hk)⟩
theorem Same.of_below {K : Nat → Prop} {A B : World} {n : Nat} (h : Below n A B) (hn : ∀ k, k < A.heap.size → K k → k < n) : Same K A B :=
  ⟨h.os, h.tape, h.output, h.size, fun i hi hk => h.block i (hn i hi hk)⟩
theorem Same.below {K : Nat → Prop} {A B : World} {n : Nat} (h : Same K A B) (hn : ∀ k, k < n → K k) (hs : n ≤ A.heap.size) : Below n A B :=
  ⟨h.os, h.tape, h.output, h.size, fun k hk => h.block k (Nat.lt_of_lt_of_le hk hs) (hn k hk)⟩
theorem Same.cell {K : Nat → Prop} {A B : World} (h : Same K A B) {a : Addr} {v : Value} (hk : K a.block) (hc : A.cell? a = some v) : B.cell? a = some v :=
  (World.cell?_of_block (w := A) (h.block a.block (cell_old hc) hk)).trans hc
theorem Same.frozen {K : Nat → Prop} {A B : World} (h : Same K A B) {a : Addr} (hk : K a.block) (hs : a.block < A.heap.size) : B.frozen? a = A.frozen? a :=
  World.frozen?_of_block (w := A) (h.block a.block hs hk)

/-- THE CONTRACT OF AN ITERATOR that yields just xs: it relies on the blocks R, which the loop's body keeps; it writes no blocks but Pv; Need: what else it reads, from its point on. -/
def Iter {α : Type} (P : Program) (gf : Nat) (lb : Array Value) (encs : α → Array Value) (R Pv : Nat → Prop) (Need : List α → World → Prop) (xs : List α) (w0 : World) : Prop :=
  ∀ (n l : Nat) (J : List α → World → Prop) (Jx : World → Prop) (W : World), Same (fun _ => True) w0 W → (∀ s A, J s A → Need s A) →
    (∀ s A B, J s A → Same (fun k => ¬ Pv k) A B → J s B) → (∀ A B, Jx A → Same (fun k => ¬ Pv k) A B → Jx B) →
    (∀ pre x W1, J pre W1 → pre ++ [x] <+: xs → YieldAt Fence.wide (n - 1) P l (encs x) W1 fun e W' =>
      (e = .returned (.bool true) ∧ J (pre ++ [x]) W' ∧ Same R W1 W') ∨ (e = .returned (.bool false) ∧ Jx W')) →
    J [] W →
    CallsIn Fence.wide n P gf (#[.func (.yield l) #[] #[]] ++ lb) W fun e W' => (∃ v, e = .returned v) ∧ (J xs W' ∨ Jx W')

/-- How the body of a round may be left: it has written no blocks but Ow; where it goes on, the invariant holds again. -/
def rangePost' {α : Type} (Ow : Nat → Prop) (I : List α → World → Prop) (Ix : Code → World → Prop) (xs : List α) (W : World) : Exit → Act → World → Prop
  | .normal, _, W' => Same (fun k => ¬ Ow k) W W' ∧ I xs W'
  | .ret, _, W' => Same (fun k => ¬ Ow k) W W' ∧ Ix .ret W'
  | .exit id, _, W' => Same (fun k => ¬ Ow k) W W' ∧ Ix (.exit id) W'
  | .goto t, _, W' => Same (fun k => ¬ Ow k) W W' ∧ Ix (.goto t) W'
  | .panic _, _, _ => False
  | .outgrown, _, _ => False

/-- THE STATEMENT 'for .. := range g { .. }'. -/
theorem range_law {α : Type} {n : Nat} {P : Program} {g : Operand} {ps : Array Tmp} {assign body : Code} {Q : Exit → Act → World → Prop} {a : Act} {w : World}
    {gf : Nat} {lb : Array Value} (hg : a.eval g = .func (.func gf) #[] lb) (eg : ∀ args w, (callFunc gf args).run P w = .ok (.enter gf args) w)
    {encs : α → Array Value} {R Pv : Nat → Prop} {Need : List α → World → Prop} {xs : List α} (hit : Iter P gf lb encs R Pv Need xs w) (hps : ∀ x, (encs x).size = ps.size)
    (Ow : Nat → Prop) (hR : ∀ k, Ow k → ¬ R k) (hPv : ∀ k, Pv k → k < w.heap.size) (hOw : ∀ k, Ow k → k ≠ w.heap.size ∧ k ≠ w.heap.size + 1) (hRl : ∀ k, R k → k < w.heap.size)
    (I : List α → World → Prop) (Ix : Code → World → Prop) (hN : ∀ s A, I s A → Need s A)
    (hI : ∀ s A B, I s A → Same (fun k => ¬ Pv k ∧ k ≠ w.heap.size ∧ k ≠ w.heap.size + 1) A B → I s B)
    (hIx : ∀ c A B, Ix c A → Same (fun k => ¬ Pv k ∧ k ≠ w.heap.size ∧ k ≠ w.heap.size + 1) A B → Ix c B)
    (h0 : I [] w) (a₁ : α → Act)
    (hassign : ∀ (l : Nat) (x : α) (W : World) (K : Act → World → Prop), K (a₁ x) W →
      assign.wpIn (Fence.wide.inRound l) (n - 1 - 1) P (Exit.then K (fun _ _ _ => False)) { tmps := (ps.zip (encs x)).foldl (fun t (p, v) => t.setIfInBounds p v) a.tmps, defers := [] } W)
    (hbody : ∀ (l : Nat) (pre : List α) (x : α) (W : World), w.heap.size + 2 ≤ W.heap.size → I pre W → pre ++ [x] <+: xs → body.wpIn (Fence.wide.inRound l) (n - 1 - 1) P (rangePost' Ow I Ix (pre ++ [x]) W) (a₁ x) W)
    (hdone : ∀ (W : World), w.heap.size + 2 ≤ W.heap.size → I xs W → W.heap[w.heap.size]? = some (.deferred (some [])) → Q .normal { a with defers := { target := .collected w.heap.size, args := #[] } :: a.defers } W)
    (hstop : ∀ (c : Code) (W : World), w.heap.size + 2 ≤ W.heap.size → Ix c W → W.heap[w.heap.size]? = some (.deferred (some [])) → c.wpIn Fence.wide n P Q { a with defers := { target := .collected w.heap.size, args := #[] } :: a.defers } W) :
    (Code.rangeFunc g ps assign body).wpIn Fence.wide n P Q a w := by
  refine wpIn_rangeFunc ?_
  intro fn hfn
  show ∃ (l : Nat) (mark : List Deferred) (w₁ : World) (d : Deferred) (w₁' : World) (f : FuncId) (args : Array Value) (w₂ : World),
      (Instr.enterLoop fn a.tmps ps assign body none).run P w = .ok (l, mark) w₁ ∧ _
  obtain ⟨rec, hrec⟩ : ∃ rec : LoopState → Option Code → Loop, rec = fun st pe => { state := st, pending := pe, fn, tmps := a.tmps, params := ps, assign, body, defers := w.heap.size } := ⟨_, rfl⟩
  obtain ⟨W1, hW1⟩ : ∃ W1, (w.alloc (.deferred (some []))).alloc (.loop (rec .ready none)) = W1 := ⟨_, rfl⟩
  have hL1 : W1.heap[w.heap.size + 1]? = some (.loop (rec .ready none)) := by
    rw [← hW1]; have := World.alloc_heap_new (w.alloc (.deferred (some []))) (.loop (rec .ready none)); rwa [World.size_alloc] at this
  have hK1 : W1.heap[w.heap.size]? = some (.deferred (some [])) := by
    rw [← hW1]; exact (Below.heap_alloc _ _ _ (by simp)).trans (World.alloc_heap_new w _)
  have hs1 : ∀ K, Same K w W1 := fun K => by rw [← hW1]; exact ((Same.refl _ _).alloc _).alloc _
  have hz1 : w.heap.size + 2 ≤ W1.heap.size := by rw [← hW1]; simp
  have hI1 : I [] W1 := hI _ _ _ h0 (hs1 _)
  refine ⟨w.heap.size + 1, [{ target := .collected w.heap.size, args := #[] }], W1, { target := .fn (.func gf) lb, args := #[.func (.yield (w.heap.size + 1)) #[] #[]] }, W1, gf,
    #[.func (.yield (w.heap.size + 1)) #[] #[]] ++ lb, W1, ?_, ?_, ?_, ?_, fun h => by simp [Fence.wide] at h, ?_⟩
  · rw [← hW1, hrec]; exact run_enterLoop_outer _ _ _ _ _
  · simp only [resolve, hg]
    simp [go_sem]
  · intro f' hf'; trivial
  · simp [invoke, go_sem, eg]
  · have book : ∀ {A B : World} {k : Nat} {o : Obj}, ¬ Pv k → A.heap[k]? = some o → Same (fun k => ¬ Pv k) A B → B.heap[k]? = some o :=
      fun hk ho hs => (hs.block _ (Array.getElem?_eq_some_iff.1 ho).1 hk).trans ho
    have hp0 : ¬ Pv w.heap.size := fun h => by have := hPv _ h; omega
    have hp1 : ¬ Pv (w.heap.size + 1) := fun h => by have := hPv _ h; omega
    refine (hit (n - 1) (w.heap.size + 1)
      (fun pre W => w.heap.size + 2 ≤ W.heap.size ∧ I pre W ∧ W.heap[w.heap.size + 1]? = some (.loop (rec .ready none)) ∧ W.heap[w.heap.size]? = some (.deferred (some [])))
      (fun W => w.heap.size + 2 ≤ W.heap.size ∧ ∃ c, Ix c W ∧ W.heap[w.heap.size + 1]? = some (.loop (rec .done (some c))) ∧ W.heap[w.heap.size]? = some (.deferred (some [])))
      W1 (hs1 _) (fun s A h => hN s A h.2.1)
      (fun s A B ⟨hz, hs, hl, hk⟩ hab => ⟨Nat.le_trans hz hab.size, hI s A B hs (hab.mono fun _ _ h => h.1), book hp1 hl hab, book hp0 hk hab⟩)
      (fun A B ⟨hz, c, hs, hl, hk⟩ hab => ⟨Nat.le_trans hz hab.size, c, hIx c A B hs (hab.mono fun _ _ h => h.1), book hp1 hl hab, book hp0 hk hab⟩)
      ?_ ⟨hz1, hI1, hL1, hK1⟩).mono ?_
    · rintro pre x W ⟨hz, hi, hl, hk⟩ hlen
      have hlt : w.heap.size + 1 < W.heap.size := (Array.getElem?_eq_some_iff.1 hl).1
      have hy := run_yield (P := P) (args := encs x) hl (by rw [hrec]; exact hps x)
      rw [hrec] at hy
      refine ⟨fn, _, assign, body, hy, roundIn_of_wpIn hfn (hassign _ x W _ ⟨_, run_beginRound hl (by rw [hrec]), ?_⟩)⟩
      obtain ⟨Wb, hWb⟩ : ∃ Wb, W.putObj (w.heap.size + 1) (.loop { rec .ready none with state := .busy }) = Wb := ⟨_, rfl⟩
      rw [hWb]
      have hzb : Wb.heap.size = W.heap.size := by rw [← hWb]; simp
      have hl2 : Wb.heap[w.heap.size + 1]? = some (.loop { rec .ready none with state := .busy }) := by rw [← hWb]; exact World.putObj_heap_same hlt
      have hk2 : Wb.heap[w.heap.size]? = some (.deferred (some [])) := by rw [← hWb]; exact (World.putObj_heap_other (by omega)).trans hk
      have hsb : ∀ K, (¬ K (w.heap.size + 1)) → Same K W Wb := fun K h => by rw [← hWb]; exact (Same.refl _ _).putObj (.inl h) _
      refine wpIn_mono (hbody _ pre x _ (by omega) (hI _ _ _ hi (hsb _ (fun h => h.2.2 rfl))) hlen) ?_
      have fin : ∀ (jump : Option Code) (W3 : World), Same (fun k => ¬ Ow k) Wb W3 →
          (Instr.endRound (w.heap.size + 1) jump).run P W3 = .ok (.bool jump.isNone) (W3.putObj (w.heap.size + 1) (.loop (rec (if jump.isNone then .ready else .done) jump))) ∧
          (W3.putObj (w.heap.size + 1) (.loop (rec (if jump.isNone then .ready else .done) jump))).heap[w.heap.size + 1]? = some (.loop (rec (if jump.isNone then .ready else .done) jump)) ∧
          (W3.putObj (w.heap.size + 1) (.loop (rec (if jump.isNone then .ready else .done) jump))).heap[w.heap.size]? = some (.deferred (some [])) ∧ w.heap.size + 2 ≤ W3.heap.size := fun jump W3 hk3 => by
        have hl3 : W3.heap[w.heap.size + 1]? = some (.loop { rec .ready none with state := .busy }) := (hk3.block _ (by omega) (fun h => (hOw _ h).2 rfl)).trans hl2
        have hk4 : W3.heap[w.heap.size]? = some (.deferred (some [])) := (hk3.block _ (by omega) (fun h => (hOw _ h).1 rfl)).trans hk2
        have := run_endRound (P := P) jump hl3
        rw [hrec] at this ⊢
        exact ⟨this, World.putObj_heap_same (Array.getElem?_eq_some_iff.1 hl3).1, (World.putObj_heap_other (by omega)).trans hk4, by have := hk3.size; omega⟩
      have put3 : ∀ {s : Obj} {W3 : World}, Same (fun k => ¬ Pv k ∧ k ≠ w.heap.size ∧ k ≠ w.heap.size + 1) W3 (W3.putObj (w.heap.size + 1) s) :=
        (Same.refl _ _).putObj (.inl (fun h => h.2.2 rfl)) _
      rintro e a3 W3 hp
      cases e with
      | normal =>
        obtain ⟨hk3, hi3⟩ := hp
        obtain ⟨hr, hl4, hk4, hz3⟩ := fin none W3 hk3
        refine ⟨_, _, hr, .inl ⟨rfl, ⟨by simpa using hz3, hI _ _ _ hi3 put3, hl4, hk4⟩, ?_⟩⟩
        refine ((hsb R (fun h => by have := hRl _ h; omega)).trans (hk3.mono (fun k _ hr ho => hR k ho hr))).trans ((Same.refl _ _).putObj (.inl (fun h => by have := hRl _ h; omega)) _)
      | ret =>
        obtain ⟨hk3, hi3⟩ := hp
        obtain ⟨hr, hl4, hk4, hz3⟩ := fin (some .ret) W3 hk3
        exact ⟨_, _, hr, .inr ⟨rfl, by simpa using hz3, .ret, hIx _ _ _ hi3 put3, hl4, hk4⟩⟩
      | exit id =>
        obtain ⟨hk3, hi3⟩ := hp
        obtain ⟨hr, hl4, hk4, hz3⟩ := fin (some (.exit id)) W3 hk3
        exact ⟨_, _, hr, .inr ⟨rfl, by simpa using hz3, .exit id, hIx _ _ _ hi3 put3, hl4, hk4⟩⟩
      | goto t =>
        obtain ⟨hk3, hi3⟩ := hp
        obtain ⟨hr, hl4, hk4, hz3⟩ := fin (some (.goto t)) W3 hk3
        exact ⟨_, _, hr, .inr ⟨rfl, by simpa using hz3, .goto t, hIx _ _ _ hi3 put3, hl4, hk4⟩⟩
      | panic ch => exact hp.elim
      | outgrown => exact hp.elim
    · have put4 : ∀ {s : Obj} {W3 : World}, Same (fun k => ¬ Pv k ∧ k ≠ w.heap.size ∧ k ≠ w.heap.size + 1) W3 (W3.putObj (w.heap.size + 1) s) :=
        (Same.refl _ _).putObj (.inl (fun h => h.2.2 rfl)) _
      rintro e W2 ⟨⟨v, rfl⟩, (⟨hz, hi, hl, hk⟩ | ⟨hz, c, hi, hl, hk⟩)⟩
      · exact ⟨none, _, by have := run_endLoop (P := P) hl (by rw [hrec]; simp); rw [hrec] at this; exact this, hdone _ (by simpa using hz) (hI _ _ _ hi put4) ((World.putObj_heap_other (by omega)).trans hk)⟩
      · exact ⟨some c, _, by have := run_endLoop (P := P) hl (by rw [hrec]; simp); rw [hrec] at this; exact this, hstop c _ (by simpa using hz) (hIx _ _ _ hi put4) ((World.putObj_heap_other (by omega)).trans hk)⟩

end Go.Proofs.YtgacdmkhgllceaaGreatDoor
