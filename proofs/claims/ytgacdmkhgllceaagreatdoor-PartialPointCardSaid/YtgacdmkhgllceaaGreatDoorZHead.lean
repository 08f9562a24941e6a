/- What the texts of this session share. -/
import Derived.Test.YtgacdmkhgllceaaGreatDoorProg
import Derived.WalkKit
import Derived.WalkMore
import Derived.WalkLawsBesides
import Derived.WalkSpells
import Derived.LoopTactic
import Derived.OwnWalk
import Derived.Below
import Derived.Outline
import Derived.KernelRfl
import Derived.Deep.QuietTactic
import Derived.BigQuiet
import Derived.Deep.LoopGhost
import Derived.Lib.Hide
import Derived.Deep.RegionHeld
import Derived.RangeFuncFrom
namespace Go.Proofs.YtgacdmkhgllceaaGreatDoor
open Go.RowKit

/-- An int of Go. -/
abbrev I (n : Int) : Value := .int .i64 n

theorem ret_int {k : IntKind} {a b : Int} (h : a = b) : Ending.returned (.int k a) = .returned (.int k b) := by rw [h]
theorem ret_bool {a b : Bool} (h : a = b) : Ending.returned (.bool a) = .returned (.bool b) := by rw [h]
theorem ret_two {a b c d : Value} (h : a = b) (h' : c = d) : Ending.returned (.tuple #[a, c]) = .returned (.tuple #[b, d]) := by rw [h, h']

/-! ### Slices that are read -/

/-- A slice reads as a list: element i begins at cell i * sz, and reads by E. -/
def Sl {α : Type} (sz : Nat) (E : World → Addr → α → Prop) (w : World) (v : Value) (xs : List α) : Prop :=
  ∃ A c, v = .slice A xs.length c ∧ (xs.length ≤ c ∧ (A = none → c = 0)) ∧ xs.length ≤ 140737488355328 ∧ ∀ i (h : i < xs.length), ∃ ad, A = some ad ∧ E w (ad.add (i * sz)) xs[i]

/-- A cell that is an int. -/
def IntE (w : World) (a : Addr) (x : Int) : Prop := w.cell? a = some (I x)
/-- A list of ints. -/
def Ints (w : World) (v : Value) (xs : List Int) : Prop := Sl 1 IntE w v xs
/-- A cell that is a list of ints. -/
def RowE (w : World) (a : Addr) (xs : List Int) : Prop := ∃ v, w.cell? a = some v ∧ Ints w v xs
/-- A list of lists of ints. -/
def Rows2 (w : World) (v : Value) (xs : List (List Int)) : Prop := Sl 1 RowE w v xs

/-- What reads so goes on to do so where old cells stay as they are. -/
def Stays {α : Type} (E : World → Addr → α → Prop) : Prop := ∀ (w w' : World) (a : Addr) (x : α), (∀ b, b.block < w.heap.size → w'.cell? b = w.cell? b) → E w a x → E w' a x

theorem cell_old {w : World} {a : Addr} {v : Value} (h : w.cell? a = some v) : a.block < w.heap.size := World.block_lt_of_cell? w a h

theorem IntE.stays : Stays IntE := fun _ _ _ _ h e => (h _ (cell_old e)).trans e
theorem Sl.stays {α : Type} {sz : Nat} {E : World → Addr → α → Prop} (hE : Stays E) {w w' : World} {v : Value} {xs : List α} (h : ∀ b, b.block < w.heap.size → w'.cell? b = w.cell? b) (e : Sl sz E w v xs) : Sl sz E w' v xs := by
  obtain ⟨A, c, h1, h2, h3, h4⟩ := e
  exact ⟨A, c, h1, h2, h3, fun i hi => by obtain ⟨ad, e1, e2⟩ := h4 i hi; exact ⟨ad, e1, hE _ _ _ _ h e2⟩⟩
theorem RowE.stays : Stays RowE := fun _ _ _ _ h ⟨v, e1, e2⟩ => ⟨v, (h _ (cell_old e1)).trans e1, Sl.stays IntE.stays h e2⟩
theorem Below.old {w w' : World} (h : Below w.heap.size w w') : ∀ b : Addr, b.block < w.heap.size → w'.cell? b = w.cell? b := fun _ hb => h.cell hb
theorem Ints.below {w w' : World} {v : Value} {xs : List Int} (e : Ints w v xs) (h : Below w.heap.size w w') : Ints w' v xs := Sl.stays IntE.stays (Below.old h) e
theorem Rows2.below {w w' : World} {v : Value} {xs : List (List Int)} (e : Rows2 w v xs) (h : Below w.heap.size w w') : Rows2 w' v xs := Sl.stays RowE.stays (Below.old h) e

theorem below_step {w w1 w2 : World} (h : Below w.heap.size w w1) (h' : Below w1.heap.size w1 w2) : Below w.heap.size w w2 := h.trans (h'.mono h.size)

theorem set_far {w : World} {a b : Addr} {v u : Value} (h : a.block ≠ b.block) (hc : w.cell? b = some u) : (w.setCell a v).cell? b = some u := (World.cell?_setCell_far w a b v h).trans hc
theorem set_same {w : World} {a : Addr} {v u : Value} (hc : w.cell? a = some u) : (w.setCell a v).cell? a = some v := World.cell?_setCell_same' w a v (by rw [hc]; rfl)
theorem set_frozen {w : World} {a b : Addr} {v : Value} {z : Bool} (h : w.frozen? b = z) : (w.setCell a v).frozen? b = z := (World.frozen?_setCell ..).trans h

/-- An element's cell, for the walk. -/
theorem Ints.at {w : World} {A : Option Addr} {n c : Nat} {xs : List Int} (h : Ints w (.slice A n c) xs) (i : Nat) (hi : i < xs.length) : ∃ ad, A = some ad ∧ w.cell? (ad.add i) = some (I xs[i]) := by
  obtain ⟨A', c', h1, h2, h3, h4⟩ := h
  injection h1 with h1 h5 h6
  obtain ⟨ad, e1, e2⟩ := h4 i hi
  refine ⟨ad, h1.trans e1, ?_⟩
  rw [Nat.mul_one] at e2
  exact e2
theorem Ints.shape {w : World} {v : Value} {xs : List Int} (h : Ints w v xs) : ∃ A c, v = .slice A xs.length c ∧ xs.length ≤ 140737488355328 := by
  obtain ⟨A', c', h1, h2, h3, h4⟩ := h
  exact ⟨A', c', h1, h3⟩

/-- A row of ints that has just been laid. -/
theorem Ints.new (w : World) (xs : List Int) (b n : Nat) (t : TypeId) (cs : Array Value) (hb : b = w.heap.size) (hc : cs = (xs.map I).toArray) (hn : n = xs.length) (hx : xs.length ≤ 140737488355328) : Ints (w.alloc (.cells cs t)) (.slice (some ⟨b, 0, none⟩) n n) xs := by
  subst hn hb
  refine ⟨_, _, rfl, ⟨Nat.le_refl _, fun h => by cases h⟩, hx, fun i hi => ⟨_, rfl, ?_⟩⟩
  have : (⟨w.heap.size, 0, none⟩ : Addr).add (i * 1) = ⟨w.heap.size, i, none⟩ := by unfold Addr.add; split <;> simp_all
  rw [this]
  show World.cell? _ _ = _
  rw [World.cell?_alloc_new, hc]
  simp [List.getElem?_eq_getElem hi]

/-- A new cell. -/
theorem new_cell (W : World) (v : Value) (t : TypeId) (n : Nat) (hn : n = W.heap.size) : (W.alloc (.cells #[v] t)).cell? ⟨n, 0, none⟩ = some v ∧ (W.alloc (.cells #[v] t)).frozen? ⟨n, 0, none⟩ = false := by
  subst hn
  have h := World.alloc_heap_new W (.cells #[v] t)
  exact ⟨by simp, by unfold World.frozen?; rw [h]; rfl⟩
theorem old_cell {W : World} {b : Nat} {v : Value} (o : Obj) (h : W.cell? ⟨b, 0, none⟩ = some v ∧ W.frozen? ⟨b, 0, none⟩ = false) : (W.alloc o).cell? ⟨b, 0, none⟩ = some v ∧ (W.alloc o).frozen? ⟨b, 0, none⟩ = false :=
  ⟨(World.cell?_of_block (w := W) (Below.heap_alloc W o b (cell_old h.1))).trans h.1, (World.frozen?_of_block (w := W) (Below.heap_alloc W o b (cell_old h.1))).trans h.2⟩

theorem putObj_cell {W : World} {l : Nat} {o : Obj} {a : Addr} {v : Value} (h : a.block ≠ l) (hc : W.cell? a = some v) : (W.putObj l o).cell? a = some v :=
  (World.cell?_of_block (w := W) (World.putObj_heap_other h)).trans hc

theorem keep {W W1 : World} {a : Addr} {v : Value} (hb : Below W.heap.size W W1) (h : W.cell? a = some v) : W1.cell? a = some v := (hb.cell (cell_old h)).trans h
theorem keepA {W : World} {a : Addr} {v : Value} (o : Obj) (h : W.cell? a = some v) : (W.alloc o).cell? a = some v := (World.cell?_alloc_lt W o a (cell_old h)).trans h
theorem keep2 {W W1 : World} {a : Addr} {v : Value} (hb : Below W.heap.size W W1) (h : W.cell? a = some v ∧ W.frozen? a = false) : W1.cell? a = some v ∧ W1.frozen? a = false :=
  ⟨(hb.cell (cell_old h.1)).trans h.1, (hb.frozen (cell_old h.1)).trans h.2⟩

end Go.Proofs.YtgacdmkhgllceaaGreatDoor

/- Words of 32 bits, as the walk spells them. -/
namespace Go.Proofs.YtgacdmkhgllceaaGreatDoor
open Go.RowKit

abbrev W32 := BitVec 32
/-- A word as an int. -/
def tn (x : W32) : Int := (x.toNat : Int)
/-- A word. -/
abbrev U (x : W32) : Value := .int .u32 (tn x)

theorem wrap_u32 (n : Int) : IntKind.u32.wrap n = n % 4294967296 := by simp [IntKind.wrap, IntKind.bits, IntKind.signed]
theorem w32_lt (x : W32) : (x.toNat : Int) < 4294967296 := by have := x.isLt; omega
theorem w32_of (x : W32) : BitVec.ofInt 32 (x.toNat : Int) = x := by rw [BitVec.ofInt_natCast]; simp
theorem wrap_w32 (x : W32) : IntKind.u32.wrap (x.toNat : Int) = x.toNat := by rw [wrap_u32]; have := w32_lt x; omega
theorem bxor (x y : W32) : bits .xor .u32 (tn x) (tn y) = tn (x ^^^ y) := by
  show IntKind.u32.wrap ((BitVec.ofInt 32 (x.toNat : Int) ^^^ BitVec.ofInt 32 (y.toNat : Int)).toNat : Int) = _
  rw [w32_of, w32_of, wrap_w32]; rfl
theorem bor (x y : W32) : bits .or .u32 (tn x) (tn y) = tn (x ||| y) := by
  show IntKind.u32.wrap ((BitVec.ofInt 32 (x.toNat : Int) ||| BitVec.ofInt 32 (y.toNat : Int)).toNat : Int) = _
  rw [w32_of, w32_of, wrap_w32]; rfl
theorem band (x y : W32) : bits .and .u32 (tn x) (tn y) = tn (x &&& y) := by
  show IntKind.u32.wrap ((BitVec.ofInt 32 (x.toNat : Int) &&& BitVec.ofInt 32 (y.toNat : Int)).toNat : Int) = _
  rw [w32_of, w32_of, wrap_w32]; rfl
theorem badd (x y : W32) : IntKind.u32.wrap (tn x + tn y) = tn (x + y) := by
  unfold tn
  rw [wrap_u32, BitVec.toNat_add]; omega
theorem bshl (x : W32) (k : Nat) : IntKind.u32.wrap (tn x * 2 ^ k) = tn (x <<< k) := by
  unfold tn
  have h : (x.toNat : Int) * 2 ^ k = ((x.toNat * 2 ^ k : Nat) : Int) := by rw [Int.natCast_mul, Int.natCast_pow]; rfl
  rw [h, wrap_u32, BitVec.toNat_shiftLeft, Nat.shiftLeft_eq]
  generalize x.toNat * 2 ^ k = m
  omega
theorem bshr (x : W32) (k : Nat) : tn x / 2 ^ k = tn (x >>> k) := by
  unfold tn
  have h : (2 : Int) ^ k = ((2 ^ k : Nat) : Int) := by rw [Int.natCast_pow]; rfl
  rw [BitVec.toNat_ushiftRight, Nat.shiftRight_eq_div_pow, h, Int.natCast_ediv]

end Go.Proofs.YtgacdmkhgllceaaGreatDoor
