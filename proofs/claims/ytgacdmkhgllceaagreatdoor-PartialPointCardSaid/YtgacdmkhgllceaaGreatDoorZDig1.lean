/- digest: rotations, words walked. -/
import Derived.Test.YtgacdmkhgllceaaGreatDoorZHead
import Derived.Test.YtgacdmkhgllceaaGreatDoorZApp
import Derived.Test.YtgacdmkhgllceaaGreatDoorZRange
namespace Go.Proofs.YtgacdmkhgllceaaGreatDoor
open Go.RowKit

/-- A rotation to the right. -/
def ror (x : W32) (r : Nat) : W32 := (x <<< (32 - r)) ||| (x >>> r)

theorem rot_count : ∀ r : Fin 32, 1 ≤ r.val → bits .and .u64 (IntKind.u64.wrap (-((r.val : Nat) : Int))) 31 = ((32 - r.val : Nat) : Int) := by decide +kernel

theorem bshl' (x : W32) (k : Nat) : tn x * 2 ^ k % 4294967296 = tn (x <<< k) := by rw [← wrap_u32]; exact bshl x k
theorem badd' (x y : W32) : (tn x + tn y) % 4294967296 = tn (x + y) := by rw [← wrap_u32]; exact badd x y

theorem rotl_any (x : W32) (r : Nat) (w : World) (h1 : 1 ≤ r) (h2 : r < 32) :
    Calls Tryz.prog 221 #[U x, I (-(r : Int))] w fun e w' => e = .returned (U (ror x r)) ∧ w = w' := by
  have hc := rot_count ⟨r, h2⟩ h1
  dsimp only at hc
  have E : Hid (bits .or .u32 (tn x * 2 ^ (32 - r) % 4294967296) (tn x / 2 ^ (32 - (32 - r))) = tn (ror x r)) := Lib.hid (by
    rw [bshl', bshr, bor, show 32 - (32 - r) = r by omega]; rfl)
  go_enter Tryz.func221, Tryz.ntmps221
  go_wp2
  go_ret
  exact ⟨ret_int E.out, rfl⟩

/-- Three rotations, exclusively or-ed. -/
def rot3 (x : W32) (a b c : Nat) : W32 := (ror x a ^^^ ror x b) ^^^ ror x c

theorem rotated_any (x : W32) (a b c : Nat) (w : World) (ha : 1 ≤ a ∧ a < 32) (hb : 1 ≤ b ∧ b < 32) (hc : 1 ≤ c ∧ c < 32) :
    Calls Tryz.prog 222 #[U x, I a, I b, I c] w fun e w' => e = .returned (U (rot3 x a b c)) ∧ w = w' := by
  have E : Hid (bits .xor .u32 (bits .xor .u32 (tn (ror x a)) (tn (ror x b))) (tn (ror x c)) = tn (rot3 x a b c)) := Lib.hid (by rw [bxor, bxor]; rfl)
  have ha1 : (1 : Int) ≤ a := by omega
  have ha2 : (a : Int) < 32 := by omega
  have hb1 : (1 : Int) ≤ b := by omega
  have hb2 : (b : Int) < 32 := by omega
  have hc1 : (1 : Int) ≤ c := by omega
  have hc2 : (c : Int) < 32 := by omega
  have e1 : wrap64 (-(a : Int)) = -(a : Int) := by unfold wrap64; omega
  have e2 : wrap64 (-(b : Int)) = -(b : Int) := by unfold wrap64; omega
  have e3 : wrap64 (-(c : Int)) = -(c : Int) := by unfold wrap64; omega
  go_enter Tryz.func222, Tryz.ntmps222
  go_wp2_with fail
  refine (rotl_any x a _ ha.1 ha.2).mono ?_
  rintro e w' ⟨rfl, rfl⟩
  go_wp2_with fail
  refine (rotl_any x b _ hb.1 hb.2).mono ?_
  rintro e w' ⟨rfl, rfl⟩
  go_wp2_with fail
  refine (rotl_any x c _ hc.1 hc.2).mono ?_
  rintro e w' ⟨rfl, rfl⟩
  go_wp2
  go_ret
  exact ⟨ret_int E.out, rfl⟩

/-- The byte as a word. -/
def wb (b : UInt8) : W32 := BitVec.ofNat 32 b.toNat
theorem wb_toNat (b : UInt8) : tn (wb b) = b.toNat := by
  unfold tn wb; rw [BitVec.toNat_ofNat]; have := b.toNat_lt; omega
/-- The word that bytes are, the most significant one first. -/
def wordB (l : List UInt8) : W32 := l.foldl (fun n c => (n <<< 8) ||| wb c) 0

set_option maxHeartbeats 1000000 in
set_option maxRecDepth 100000 in
theorem word_any (v : Value) (xs : List UInt8) (w : World) (hv : Bytes w v xs) (hl : 4 ≤ xs.length) :
    Calls Tryz.prog 220 #[v] w fun e w' => e = .returned (U (wordB (xs.take 4))) ∧ w = w' := by
  obtain ⟨A, c, rfl, hm⟩ := hv.shape
  obtain ⟨A', c', h1, ⟨h2, h3⟩, _, _⟩ := id hv
  injection h1 with ha _ h1
  subst ha h1
  have HV := Lib.hid hv
  have hl4 : (4 : Int) ≤ xs.length := by omega
  have hl5 : (4 : Int) ≤ c := by omega
  clear hv h3
  go_enter Tryz.func220, Tryz.ntmps220
  go_wp2
  go_loop [2, 4, 8] (fun n _ i => ∃ k : Nat, k ≤ 4 ∧ i = I k ∧ n = U (wordB (xs.take k))) (fun _ _ i => 4 - (intOf i).toNat)
  case atStart => exact ⟨0, Nat.zero_le _, rfl, rfl⟩
  case round =>
    obtain ⟨k, hk, rfl, rfl⟩ := hrel
    by_cases hlt : k < 4
    · obtain ⟨ad, rfl, hc⟩ := HV.out.at k (by omega)
      have hlt2 : (k : Int) < 4 := by omega
      obtain ⟨b, hb⟩ : ∃ b, b = xs[k]'(by omega) := ⟨_, rfl⟩
      have HS : Hid (wordB (xs.take (k + 1)) = (wordB (xs.take k) <<< 8) ||| wb b) := Lib.hid (by
        unfold wordB; rw [List.take_succ_eq_append_getElem (by omega), List.foldl_append, hb]; rfl)
      obtain ⟨n0, hn0⟩ : ∃ n0, n0 = wordB (xs.take k) := ⟨_, rfl⟩
      rw [← hn0] at HS ⊢
      rw [← hb] at hc
      have hb8 : (b.toNat : Int) < 256 := by have := b.toNat_lt; omega
      have E : Hid (bits .or .u32 (tn n0 * 256 % 4294967296) (b.toNat : Int) = tn ((n0 <<< 8) ||| wb b)) := Lib.hid (by
        rw [← wb_toNat, show (256 : Int) = 2 ^ 8 by decide, bshl', bor])
      clear hn0 hb
      go_wp2
      go_round
      case rel => exact ⟨k + 1, by omega, by go_num, by rw [HS.out]; exact congrArg (Value.int .u32) E.out⟩
      case measure => simp [intOf]; omega
    · obtain rfl : k = 4 := by omega
      go_wp2
      go_ret
      exact ⟨rfl, rfl⟩

end Go.Proofs.YtgacdmkhgllceaaGreatDoor

/- digest.put walked. -/
namespace Go.Proofs.YtgacdmkhgllceaaGreatDoor
open Go.RowKit

/-- Cells of a block that are bytes. -/
structure RowB (W : World) (g n : Nat) (f : Nat → UInt8) : Prop where
  cell : ∀ j, j < n → W.cell? ⟨g, j, none⟩ = some (B8 (f j))
  free : ∀ j, j < n → W.frozen? ⟨g, j, none⟩ = false
theorem RowB.set {W : World} {g n : Nat} {f : Nat → UInt8} (h : RowB W g n f) {k : Nat} (hk : k < n) (x : UInt8) : RowB (W.setCell ⟨g, k, none⟩ (B8 x)) g n (fun j => if j = k then x else f j) := by
  refine ⟨fun j hj => ?_, fun j hj => set_frozen (h.free j hj)⟩
  by_cases e : j = k
  · subst e; rw [if_pos rfl]; exact set_same (h.cell j hj)
  · rw [if_neg e]
    exact (World.cell?_setCell_other (h := fun q => e (by injection q with _ q; exact q.symm)) ..).trans (h.cell j hj)
theorem RowB.same {W W' : World} {g n : Nat} {f : Nat → UInt8} (h : RowB W g n f) {K : Nat → Prop} (hs : Same K W W') (hg : K g) : RowB W' g n f :=
  ⟨fun j hj => hs.cell hg (h.cell j hj), fun j hj => (hs.frozen (a := ⟨g, j, none⟩) hg (cell_old (h.cell j hj))).trans (h.free j hj)⟩
theorem RowB.below {W W' : World} {g n : Nat} {f : Nat → UInt8} (h : RowB W g n f) (hb : Below W.heap.size W W') : RowB W' g n f :=
  h.same (Same.of_below hb (fun _ h _ => h) (K := fun _ => True)) trivial
theorem RowB.congr {W : World} {g n : Nat} {f f' : Nat → UInt8} (h : RowB W g n f) (e : ∀ j, j < n → f j = f' j) : RowB W g n f' :=
  ⟨fun j hj => by rw [← e j hj]; exact h.cell j hj, h.free⟩

/-- A byte of a number. -/
def byteAt (n i : Nat) : UInt8 := UInt8.ofNat (n / 2 ^ (8 * i))
/-- Bytes with a number written among them, the most significant byte first. -/
def putF (f : Nat → UInt8) (o len n : Nat) (k : Nat) : Nat → UInt8 := fun j => if o + (len - k) ≤ j ∧ j < o + len then byteAt n (o + len - 1 - j) else f j

theorem putF_zero (f : Nat → UInt8) (o len n : Nat) : putF f o len n 0 = f := by
  funext j; unfold putF; rw [if_neg (by omega)]
theorem putF_succ (f : Nat → UInt8) (o len n k : Nat) (hk : k < len) : (fun j => if j = o + (len - 1 - k) then byteAt n k else putF f o len n k j) = putF f o len n (k + 1) := by
  funext j
  unfold putF
  by_cases e : j = o + (len - 1 - k)
  · rw [if_pos e, if_pos (by omega)]; congr 1; omega
  · rw [if_neg e]
    by_cases e2 : o + (len - k) ≤ j ∧ j < o + len
    · rw [if_pos e2, if_pos (by omega)]
    · rw [if_neg e2, if_neg (by omega)]

theorem byteAt_int (n i : Nat) : ((n : Int) / 2 ^ (8 * i)) % 256 = ((byteAt n i).toNat : Int) := by
  have h : (2 : Int) ^ (8 * i) = ((2 ^ (8 * i) : Nat) : Int) := by rw [Int.natCast_pow]; rfl
  unfold byteAt
  rw [UInt8.toNat_ofNat', h, ← Int.natCast_ediv]
  omega

set_option maxRecDepth 100000 in
set_option maxHeartbeats 1000000 in
theorem put_any (g o len cap N : Nat) (n : Nat) (f : Nat → UInt8) (w : World) (hr : RowB w g N f) (hN : o + len ≤ N) (hl : len ≤ 8) (hn : n < 18446744073709551616) :
    Calls Tryz.prog 205 #[.slice (some ⟨g, o, none⟩) len cap, .int .u64 n] w fun e w' => (∃ v, e = .returned v) ∧ RowB w' g N (putF f o len n len) ∧ Same (fun k => k ≠ g) w w' := by
  have HR := Lib.hid hr
  have hnb : (n : Int) < 18446744073709551616 := by omega
  clear hr
  go_enter Tryz.func205, Tryz.ntmps205
  go_wp2
  go_loopw [4, 7] (fun _ i wr => ∃ k : Nat, k ≤ len ∧ i = I k ∧ Hid (RowB wr g N (putF f o len n k)) ∧ Hid (Same (fun k => k ≠ g) w wr)) (fun _ i _ => len - (intOf i).toNat)
  case atStart => exact ⟨0, Nat.zero_le _, rfl, Lib.hid (by rw [putF_zero]; exact HR.out), Lib.hid (Same.refl _ _)⟩
  case round =>
    obtain ⟨k, hk, rfl, hrow, hsm⟩ := hrel
    by_cases hlt : k < len
    · have cy := hrow.out.cell (o + (len - 1 - k)) (by omega)
      have fy := hrow.out.free (o + (len - 1 - k)) (by omega)
      have HNX := Lib.hid (hrow.out.set (k := o + (len - 1 - k)) (by omega) (byteAt n k))
      have HP := Lib.hid (putF_succ f o len n k hlt)
      have EB := Lib.hid (byteAt_int n k)
      go_wp2
      go_roundw
      case rel =>
        refine ⟨k + 1, by omega, by go_num, Lib.hid ?_, Lib.hid ?_⟩
        · rw [EB.out, ← HP.out]; exact HNX.out
        · exact hsm.out.setCell (.inl (fun h => h rfl)) _
      case measure => simp [intOf]; omega
    · obtain rfl : k = len := by omega
      go_wp2
      go_end0
      exact ⟨⟨_, rfl⟩, hrow.out, hsm.out⟩

end Go.Proofs.YtgacdmkhgllceaaGreatDoor

/- A digest in a block of 32 bytes: loaded, stored, returned. -/
namespace Go.Proofs.YtgacdmkhgllceaaGreatDoor
open Go.RowKit

/-- The value of a digest. -/
def digV (O : Nat → UInt8) : Value := .agg #[B8 (O 0), B8 (O 1), B8 (O 2), B8 (O 3), B8 (O 4), B8 (O 5), B8 (O 6), B8 (O 7), B8 (O 8), B8 (O 9), B8 (O 10), B8 (O 11), B8 (O 12), B8 (O 13), B8 (O 14), B8 (O 15), B8 (O 16), B8 (O 17), B8 (O 18), B8 (O 19), B8 (O 20), B8 (O 21), B8 (O 22), B8 (O 23), B8 (O 24), B8 (O 25), B8 (O 26), B8 (O 27), B8 (O 28), B8 (O 29), B8 (O 30), B8 (O 31)]
theorem l32 (O : Nat → UInt8) : ∀ j v, ([B8 (O 0), B8 (O 1), B8 (O 2), B8 (O 3), B8 (O 4), B8 (O 5), B8 (O 6), B8 (O 7), B8 (O 8), B8 (O 9), B8 (O 10), B8 (O 11), B8 (O 12), B8 (O 13), B8 (O 14), B8 (O 15), B8 (O 16), B8 (O 17), B8 (O 18), B8 (O 19), B8 (O 20), B8 (O 21), B8 (O 22), B8 (O 23), B8 (O 24), B8 (O 25), B8 (O 26), B8 (O 27), B8 (O 28), B8 (O 29), B8 (O 30), B8 (O 31)] : List Value)[j]? = some v → j < 32 ∧ v = B8 (O j) := by
  intro j v h
  have e : ([B8 (O 0), B8 (O 1), B8 (O 2), B8 (O 3), B8 (O 4), B8 (O 5), B8 (O 6), B8 (O 7), B8 (O 8), B8 (O 9), B8 (O 10), B8 (O 11), B8 (O 12), B8 (O 13), B8 (O 14), B8 (O 15), B8 (O 16), B8 (O 17), B8 (O 18), B8 (O 19), B8 (O 20), B8 (O 21), B8 (O 22), B8 (O 23), B8 (O 24), B8 (O 25), B8 (O 26), B8 (O 27), B8 (O 28), B8 (O 29), B8 (O 30), B8 (O 31)] : List Value) = List.ofFn (fun i : Fin 32 => B8 (O i)) := rfl
  rw [e, List.getElem?_ofFn] at h
  split at h
  · rename_i hj; injection h with h; exact ⟨hj, h.symm⟩
  · cases h
theorem l32' (O : Nat → UInt8) (j : Nat) (hj : j < 32) : ([B8 (O 0), B8 (O 1), B8 (O 2), B8 (O 3), B8 (O 4), B8 (O 5), B8 (O 6), B8 (O 7), B8 (O 8), B8 (O 9), B8 (O 10), B8 (O 11), B8 (O 12), B8 (O 13), B8 (O 14), B8 (O 15), B8 (O 16), B8 (O 17), B8 (O 18), B8 (O 19), B8 (O 20), B8 (O 21), B8 (O 22), B8 (O 23), B8 (O 24), B8 (O 25), B8 (O 26), B8 (O 27), B8 (O 28), B8 (O 29), B8 (O 30), B8 (O 31)] : List Value)[j]? = some (B8 (O j)) := by
  have e : ([B8 (O 0), B8 (O 1), B8 (O 2), B8 (O 3), B8 (O 4), B8 (O 5), B8 (O 6), B8 (O 7), B8 (O 8), B8 (O 9), B8 (O 10), B8 (O 11), B8 (O 12), B8 (O 13), B8 (O 14), B8 (O 15), B8 (O 16), B8 (O 17), B8 (O 18), B8 (O 19), B8 (O 20), B8 (O 21), B8 (O 22), B8 (O 23), B8 (O 24), B8 (O 25), B8 (O 26), B8 (O 27), B8 (O 28), B8 (O 29), B8 (O 30), B8 (O 31)] : List Value) = List.ofFn (fun i : Fin 32 => B8 (O i)) := rfl
  rw [e, List.getElem?_ofFn, dif_pos hj]

theorem run_storeCells_any {P : Program} {g : Nat} : ∀ (vs : List Value) (k : Nat) (W : World), (∀ j v, vs[j]? = some v → (∃ u, W.cell? ⟨g, k + j, none⟩ = some u) ∧ W.frozen? ⟨g, k + j, none⟩ = false ∧ v.oneCell' = true) →
    ∃ W', (storeCells ⟨g, 0, none⟩ vs k).run P W = .ok () W' ∧ Same (fun i => i ≠ g) W W' ∧ (∀ j v, vs[j]? = some v → W'.cell? ⟨g, k + j, none⟩ = some v) ∧ (∀ i, i < k → W'.cell? ⟨g, i, none⟩ = W.cell? ⟨g, i, none⟩) ∧ (∀ i, W'.frozen? ⟨g, i, none⟩ = W.frozen? ⟨g, i, none⟩)
  | [], k, W, _ => ⟨W, rfl, Same.refl _ _, fun j v h => by simp at h, fun _ _ => rfl, fun _ => rfl⟩
  | v :: rest, k, W, h => by
    obtain ⟨⟨u, h0⟩, h1, h2⟩ := h 0 v rfl
    rw [Nat.add_zero] at h0 h1
    have hadd : (⟨g, 0, none⟩ : Addr).add k = ⟨g, k, none⟩ := by unfold Addr.add; split <;> simp_all
    have hst : (store ((⟨g, 0, none⟩ : Addr).add k) v).run P W = .ok () (W.setCell ⟨g, k, none⟩ v) := by
      rw [hadd, run_store P W _ v _ h2, h0]
      simp [h1]
    have hoth : ∀ i, i ≠ k → (W.setCell ⟨g, k, none⟩ v).cell? ⟨g, i, none⟩ = W.cell? ⟨g, i, none⟩ := fun i hi => World.cell?_setCell_other (h := fun q => hi (by injection q with _ q; exact q.symm)) ..
    obtain ⟨W', r1, r2, r3, r4, r5⟩ := run_storeCells_any (P := P) rest (k + 1) (W.setCell ⟨g, k, none⟩ v) (fun j x hx => by
      obtain ⟨⟨y, e1⟩, e2, e3⟩ := h (j + 1) x hx
      have e : k + 1 + j = k + (j + 1) := by omega
      rw [e]
      exact ⟨⟨y, (hoth _ (by omega)).trans e1⟩, set_frozen e2, e3⟩)
    refine ⟨W', ?_, ((Same.refl _ _).setCell (.inl (fun q => q rfl)) _).trans r2, fun j x hx => ?_, fun i hi => (r4 i (by omega)).trans (hoth i (by omega)), fun i => (r5 i).trans (set_frozen rfl)⟩
    · simp only [storeCells, Sem.run_bind, hst, Result.andThen_ok, r1]
    · cases j with
      | zero =>
        injection hx with hx; subst hx
        rw [Nat.add_zero]
        exact (r4 k (by omega)).trans (set_same h0)
      | succ j =>
        have e : k + (j + 1) = k + 1 + j := by omega
        rw [e]; exact r3 j x hx

theorem info_dig : (Tryz.prog.info? 177).map (fun i => i.size) = some 32 := by kernel_rfl
set_option maxRecDepth 1000000 in
theorem agg_dig (W : World) : (isAgg 177).run Tryz.prog W = .ok true W := by rfl
set_option maxRecDepth 1000000 in
theorem size_dig (W : World) : (sizeOf 177).run Tryz.prog W = .ok 32 W := by rfl
theorem RowB.loadVar {W : World} {g : Nat} {O : Nat → UInt8} (h : RowB W g 32 O) : (loadVar 177 ⟨g, 0, none⟩).run Tryz.prog W = .ok (digV O) W := by
  have hl : (loadCells ⟨g, 0, none⟩ 32).run Tryz.prog W = .ok #[B8 (O 0), B8 (O 1), B8 (O 2), B8 (O 3), B8 (O 4), B8 (O 5), B8 (O 6), B8 (O 7), B8 (O 8), B8 (O 9), B8 (O 10), B8 (O 11), B8 (O 12), B8 (O 13), B8 (O 14), B8 (O 15), B8 (O 16), B8 (O 17), B8 (O 18), B8 (O 19), B8 (O 20), B8 (O 21), B8 (O 22), B8 (O 23), B8 (O 24), B8 (O 25), B8 (O 26), B8 (O 27), B8 (O 28), B8 (O 29), B8 (O 30), B8 (O 31)] W :=
    run_loadCells_list (P := Tryz.prog) W ⟨g, 0, none⟩ [B8 (O 0), B8 (O 1), B8 (O 2), B8 (O 3), B8 (O 4), B8 (O 5), B8 (O 6), B8 (O 7), B8 (O 8), B8 (O 9), B8 (O 10), B8 (O 11), B8 (O 12), B8 (O 13), B8 (O 14), B8 (O 15), B8 (O 16), B8 (O 17), B8 (O 18), B8 (O 19), B8 (O 20), B8 (O 21), B8 (O 22), B8 (O 23), B8 (O 24), B8 (O 25), B8 (O 26), B8 (O 27), B8 (O 28), B8 (O 29), B8 (O 30), B8 (O 31)] (fun j v hv => by
      obtain ⟨hj, rfl⟩ := l32 O j v hv
      have hadd : (⟨g, 0, none⟩ : Addr).add j = ⟨g, j, none⟩ := by unfold Addr.add; split <;> simp_all
      rw [hadd]; exact h.cell j hj)
  simp only [Go.loadVar, Sem.run_bind, agg_dig, size_dig, hl, Result.andThen_ok, if_true, Sem.run_pure]
  rfl
theorem RowB.storeVar {W : World} {g : Nat} {f : Nat → UInt8} (h : RowB W g 32 f) (O : Nat → UInt8) : ∃ W', (storeVar 177 ⟨g, 0, none⟩ (digV O)).run Tryz.prog W = .ok () W' ∧ RowB W' g 32 O ∧ Same (fun k => k ≠ g) W W' := by
  obtain ⟨W', r1, r2, r3, _, r5⟩ := run_storeCells_any (P := Tryz.prog) (g := g) [B8 (O 0), B8 (O 1), B8 (O 2), B8 (O 3), B8 (O 4), B8 (O 5), B8 (O 6), B8 (O 7), B8 (O 8), B8 (O 9), B8 (O 10), B8 (O 11), B8 (O 12), B8 (O 13), B8 (O 14), B8 (O 15), B8 (O 16), B8 (O 17), B8 (O 18), B8 (O 19), B8 (O 20), B8 (O 21), B8 (O 22), B8 (O 23), B8 (O 24), B8 (O 25), B8 (O 26), B8 (O 27), B8 (O 28), B8 (O 29), B8 (O 30), B8 (O 31)] 0 W (fun j v hv => by
    obtain ⟨hj, rfl⟩ := l32 O j v hv
    rw [Nat.zero_add]
    exact ⟨⟨_, h.cell j hj⟩, h.free j hj, rfl⟩)
  refine ⟨W', ?_, ⟨fun j hj => ?_, fun j hj => (r5 j).trans (h.free j hj)⟩, r2⟩
  · simp only [Go.storeVar, digV, Sem.run_bind, size_dig, Result.andThen_ok]
    exact r1
  · have := r3 j _ (l32' O j hj)
    rw [Nat.zero_add] at this; exact this

theorem wpList_loadD {ops : Array Oper} {rest : List Oper} {o : Oper} {a : Act} {Q : Exit → Act → World → Prop} {W : World} (hgd : o.guard = none) (p : Operand) (ho : o.op = .load 177 p) (g : Nat) (O : Nat → UInt8) (hp : a.eval p = .pointer (some ⟨g, 0, none⟩)) (h : RowB W g 32 O)
    (hk : wpList Tryz.prog ops Q rest (a.put o.dst (digV O)) W) : wpList Tryz.prog ops Q (o :: rest) a W := by
  refine wpList_plain hgd fun K hK => ?_
  have hrun := h.loadVar
  unfold Oper.wp
  simp [execOp, ho, hp, Instr.loadAt, Instr.sureAddr, hrun, Result.andThen]
  exact hK _ _ hk
theorem wpList_storeD {ops : Array Oper} {rest : List Oper} {o : Oper} {a : Act} {Q : Exit → Act → World → Prop} {W : World} (hgd : o.guard = none) (p x : Operand) (ho : o.op = .store 177 p x) (g : Nat) (f O : Nat → UInt8) (hp : a.eval p = .pointer (some ⟨g, 0, none⟩)) (hx : a.eval x = digV O) (h : RowB W g 32 f)
    (hk : ∀ W', RowB W' g 32 O → Same (fun k => k ≠ g) W W' → wpList Tryz.prog ops Q rest (a.put o.dst undef) W') : wpList Tryz.prog ops Q (o :: rest) a W := by
  refine wpList_plain hgd fun K hK => ?_
  obtain ⟨W', hrun, h1, h2⟩ := h.storeVar O
  unfold Oper.wp
  simp [execOp, ho, hp, hx, Instr.storeAt, Instr.sureAddr, hrun, Result.andThen]
  exact hK _ _ (hk W' h1 h2)
theorem RowB.zero (W : World) : RowB (W.alloc (.cells #[Value.int .u8 0, Value.int .u8 0, Value.int .u8 0, Value.int .u8 0, Value.int .u8 0, Value.int .u8 0, Value.int .u8 0, Value.int .u8 0, Value.int .u8 0, Value.int .u8 0, Value.int .u8 0, Value.int .u8 0, Value.int .u8 0, Value.int .u8 0, Value.int .u8 0, Value.int .u8 0, Value.int .u8 0, Value.int .u8 0, Value.int .u8 0, Value.int .u8 0, Value.int .u8 0, Value.int .u8 0, Value.int .u8 0, Value.int .u8 0, Value.int .u8 0, Value.int .u8 0, Value.int .u8 0, Value.int .u8 0, Value.int .u8 0, Value.int .u8 0, Value.int .u8 0, Value.int .u8 0] 177)) W.heap.size 32 (fun _ => 0) := by
  refine ⟨fun j hj => ?_, fun j _ => by unfold World.frozen?; rw [heap_alloc_new]; rfl⟩
  rw [World.cell?_alloc_new]
  rw [List.getElem?_toArray]
  exact l32' (fun _ => 0) j hj
set_option maxRecDepth 1000000 in
theorem run_allocD (W : World) : (Instr.alloc 177 true (.tuple #[])).run Tryz.prog W = .ok (.pointer (some ⟨W.heap.size, 0, none⟩)) (W.alloc (.cells #[Value.int .u8 0, Value.int .u8 0, Value.int .u8 0, Value.int .u8 0, Value.int .u8 0, Value.int .u8 0, Value.int .u8 0, Value.int .u8 0, Value.int .u8 0, Value.int .u8 0, Value.int .u8 0, Value.int .u8 0, Value.int .u8 0, Value.int .u8 0, Value.int .u8 0, Value.int .u8 0, Value.int .u8 0, Value.int .u8 0, Value.int .u8 0, Value.int .u8 0, Value.int .u8 0, Value.int .u8 0, Value.int .u8 0, Value.int .u8 0, Value.int .u8 0, Value.int .u8 0, Value.int .u8 0, Value.int .u8 0, Value.int .u8 0, Value.int .u8 0, Value.int .u8 0, Value.int .u8 0] 177)) := by
  rfl
theorem wpList_allocD {ops : Array Oper} {rest : List Oper} {o : Oper} {a : Act} {Q : Exit → Act → World → Prop} {W : World} (hgd : o.guard = none) (ho : o.op = .alloc 177)
    (hk : ∀ g W', Hid (g = W.heap.size) → RowB W' g 32 (fun _ => 0) → Below W.heap.size W W' → g < W'.heap.size → wpList Tryz.prog ops Q rest (a.put o.dst (.pointer (some ⟨g, 0, none⟩))) W') : wpList Tryz.prog ops Q (o :: rest) a W := by
  refine wpList_plain hgd fun K hK => ?_
  have hrun := run_allocD W
  unfold Oper.wp
  simp [execOp, ho, hrun, Result.andThen]
  exact hK _ _ (hk _ _ (Lib.hid rfl) (RowB.zero W) ((Below.refl _ _).alloc (Nat.le_refl _) _) (by simp))
theorem results_dig {fn : Func} {t : Tmp} (h : fn.results = #[.cell t 177]) (tmps : Array Value) (W : World) (g : Nat) (O : Nat → UInt8) (hp : tmps.getD t undef = .pointer (some ⟨g, 0, none⟩)) (hr : RowB W g 32 O) : (results fn tmps).run Tryz.prog W = .ok (digV O) W := by
  have hrun := hr.loadVar
  have hp' : tmps[t]?.getD undef = .pointer (some ⟨g, 0, none⟩) := by simpa using hp
  simp [results, h, hp', asAddr, hrun]

end Go.Proofs.YtgacdmkhgllceaaGreatDoor
