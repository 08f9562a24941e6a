/- digest.Sum walked. -/
import Derived.Test.YtgacdmkhgllceaaGreatDoorZDig3
import Derived.Test.YtgacdmkhgllceaaGreatDoorZDig1
import Derived.Deep.Cut
import Derived.Deep.CutRange
namespace Go.Proofs.YtgacdmkhgllceaaGreatDoor
open Go.RowKit

/-- A value stored where it lies already. -/
theorem setCell_id {W : World} {g i : Nat} {v : Value} (h : W.cell? ⟨g, i, none⟩ = some v) : W.setCell ⟨g, i, none⟩ v = W := by
  have hh : W.heap.modify g (fun | .cells c elem frozen => .cells (if (none : Option Nat).isSome then c else c.setIfInBounds i v) elem frozen | o => o) = W.heap := by
    apply Array.ext (by simp)
    intro j h1 h2
    rw [Array.getElem_modify]
    by_cases e : g = j
    · subst e
      rw [if_pos rfl]
      unfold World.cell? at h
      have hg : W.heap[g]? = some W.heap[g] := Array.getElem?_eq_getElem h2
      rw [hg] at h
      cases hc : W.heap[g] with
      | cells c t fr =>
        rw [hc] at h
        have h' : c[i]? = some v := h
        show Obj.cells (c.setIfInBounds i v) t fr = Obj.cells c t fr
        congr 1
        apply Array.ext (by simp)
        intro k k1 k2
        rw [Array.getElem_setIfInBounds]
        split
        · rename_i e2; subst e2
          rw [Array.getElem?_eq_getElem k2] at h'; injection h' with h'; exact h'.symm
        · rfl
      | _ => rfl
    · rw [if_neg e]
  unfold World.setCell
  simp only
  exact (congrArg (fun x => { W with heap := x }) hh)
/-- The first bytes of a slice. -/
theorem Bytes.pre {w : World} {A : Option Addr} {n c : Nat} {xs : List UInt8} (h : Bytes w (.slice A n c) xs) (k : Nat) (hk : k ≤ n) : Bytes w (.slice A k c) (xs.take k) := by
  obtain ⟨A', c', h1, ⟨h2, h3⟩, h4, h5⟩ := h
  injection h1 with h1 h6 h7
  subst h1 h6 h7
  have hl : (xs.take k).length = k := by rw [List.length_take]; omega
  refine ⟨A, c, by rw [hl], ⟨by omega, h3⟩, by omega, fun i hi => ?_⟩
  obtain ⟨ad', e1, e2⟩ := h5 i (by omega)
  refine ⟨ad', e1, ?_⟩
  rw [List.getElem_take]; exact e2
/-- A state that has taken in the first blocks of these bytes. -/
def absN (f : Nat → W32) (xs : List UInt8) : Nat → Nat → W32
  | 0 => f
  | k + 1 => absF (absN f xs k) ((xs.drop (64 * k)).take 64)

def lenOf : Value → Nat
  | .slice _ n _ => n
  | _ => 0
theorem j32 (f : Nat → Value) : ∀ j, j < 32 → (#[f 0, f 1, f 2, f 3, f 4, f 5, f 6, f 7, f 8, f 9, f 10, f 11, f 12, f 13, f 14, f 15, f 16, f 17, f 18, f 19, f 20, f 21, f 22, f 23, f 24, f 25, f 26, f 27, f 28, f 29, f 30, f 31])[j]? = some (f j) := by
  intro j hj
  have h : (List.ofFn (fun i : Fin 32 => f i)).toArray[j]? = some (f j) := by
    rw [List.getElem?_toArray, List.getElem?_ofFn, dif_pos hj]
  exact h

/-- The bytes that are left over, and zeros behind them. -/
def padF (ys : List UInt8) (j : Nat) : UInt8 := ys.getD j 0
/-- How long the bytes that are left over become. -/
def padL (r : Nat) : Nat := if 55 < r then 128 else 64
/-- The last one or two blocks: what is left over, a bit, zeros and the length. -/
def padP (xs : List UInt8) : Nat → UInt8 :=
  putF (fun j => if j = (xs.drop (64 * (xs.length / 64))).length then 128 else padF (xs.drop (64 * (xs.length / 64))) j) (padL (xs.drop (64 * (xs.length / 64))).length - 8) 8 (xs.length * 8) 8
def rowL (f : Nat → UInt8) (o n : Nat) : List UInt8 := (List.range n).map (fun i => f (o + i))
theorem RowB.bytes {W : World} {g N : Nat} {f : Nat → UInt8} (h : RowB W g N f) (o n c : Nat) (hn : o + n ≤ N) (hc : n ≤ c) (hm : n ≤ 140737488355328 := by omega) : Bytes W (.slice (some ⟨g, o, none⟩) n c) (rowL f o n) := by
  have hl : (rowL f o n).length = n := by unfold rowL; simp
  refine ⟨_, _, by rw [hl], ⟨by omega, fun e => by cases e⟩, by omega, fun i hi => ⟨_, rfl, ?_⟩⟩
  have e : (⟨g, o, none⟩ : Addr).add (i * 1) = ⟨g, o + i, none⟩ := by
    unfold Addr.add; rw [Nat.mul_one]; by_cases e : i = 0
    · subst e; rfl
    · simp [e]
  rw [e]
  have e2 : ∀ h, (rowL f o n)[i]'h = f (o + i) := by unfold rowL; intro h; simp
  rw [e2]
  exact h.cell (o + i) (by omega)
def absJ (f : Nat → W32) (P : Nat → UInt8) : Nat → Nat → W32
  | 0 => f
  | j + 1 => absF (absJ f P j) (rowL P (64 * j) 64)
theorem wrap_u64 (n : Int) : IntKind.u64.wrap n = n % 18446744073709551616 := by simp [IntKind.wrap, IntKind.bits, IntKind.signed]
/-- The state behind all bytes. -/
def shaS (xs : List UInt8) : Nat → W32 := absJ (absN k0 xs (xs.length / 64)) (padP xs) (padL (xs.drop (64 * (xs.length / 64))).length / 64)
def outF (F : Nat → W32) : Nat → Nat → UInt8
  | 0 => fun _ => 0
  | t + 1 => putF (outF F t) (4 * t) 4 (F t).toNat 4
/-- The digest of bytes. -/
def shaF (xs : List UInt8) : Nat → UInt8 := outF (shaS xs) 8
set_option maxRecDepth 100000 in
theorem run_index8 (f : Nat → Value) (t : Nat) (h : t < 8) (W : World) : (Instr.index 230 (.agg #[f 0, f 1, f 2, f 3, f 4, f 5, f 6, f 7]) (I t)).run Tryz.prog W = .ok (f t) W := by
  have : t = 0 ∨ t = 1 ∨ t = 2 ∨ t = 3 ∨ t = 4 ∨ t = 5 ∨ t = 6 ∨ t = 7 := by omega
  rcases this with rfl | rfl | rfl | rfl | rfl | rfl | rfl | rfl <;> rfl
theorem made_get (j : Nat) (hj : j < 128) : (madeCells #[Value.int .u8 0] 128)[j]? = some (B8 0) := by
  unfold madeCells
  rw [Array.getElem?_map, Array.getElem?_range, if_pos hj]
  show some (#[Value.int .u8 0][j % 1]!) = _
  rw [Nat.mod_one]; rfl
theorem info1_u8 : (Tryz.prog.info? 5).map (·.size) = some 1 := by kernel_rfl
theorem copy_bytes (W : World) (g _L dC : Nat) (t : TypeId) (hg : W.heap[g]? = some (.cells (madeCells #[.int .u8 0] 128) t (0, 0))) (A : Option Addr) (c : Nat) (ys : List UInt8) (hb : Bytes W (.slice A ys.length c) ys) (hL : ys.length < 64) :
    ∃ w', (Builtin.copy_ #[28, 28] 3 #[.slice (some ⟨g, 0, none⟩) 64 dC, .slice A ys.length c]).run Tryz.prog W = .ok (goInt ys.length) w' ∧ RowB w' g 128 (padF ys) ∧ Same (fun k => k ≠ g) W w' := by
  have hm128 : (madeCells #[Value.int .u8 0] 128).size = 128 := size_madeCells _ _
  by_cases h0 : ys.length = 0
  · refine ⟨W, ?_, ⟨fun j hj => ?_, fun j _ => ?_⟩, Same.refl _ _⟩
    · rw [h0]
      exact run_copy_none (P := Tryz.prog) W 28 28 3 5 (some ⟨g, 0, none⟩) A 64 dC 0 c Tryz.underlying28 info1_u8 rfl
    · obtain rfl := List.eq_nil_of_length_eq_zero h0
      rw [cell_of_row W g j _ t (0, 0) hg]
      exact made_get j hj
    · unfold World.frozen?; rw [hg]; rfl
  · obtain ⟨ad, rfl, _⟩ := hb.at 0 (by omega)
    have hrun := run_copy_row (P := Tryz.prog) W 28 28 3 5 g 0 64 dC ad ys.length c _ t (ys.map B8) Tryz.underlying28 info1_u8 hg (by rw [List.length_map]; exact (Nat.min_eq_left (by omega)).symm) (fun j v hj => by
      rw [List.getElem?_map] at hj
      obtain ⟨b, hb1, hb2⟩ := Option.map_eq_some_iff.1 hj
      obtain ⟨hj2, hb3⟩ := List.getElem?_eq_some_iff.1 hb1
      obtain ⟨ad', e1, e2⟩ := hb.at j hj2
      injection e1 with e1; subst e1
      rw [← hb2, ← hb3]; exact e2) (by rw [hm128, List.length_map]; omega) (fun v hv => by
      obtain ⟨b, _, rfl⟩ := List.mem_map.1 hv; rfl)
    rw [List.length_map] at hrun
    refine ⟨_, hrun, ⟨fun j hj => ?_, fun j _ => ?_⟩, ?_⟩
    · rw [cell_of_row _ g j _ t (0, 0) (setRow_heap W g _ _ t (0, 0) hg)]
      rw [List.getElem?_toArray, Nat.zero_add, List.take_zero, List.nil_append]
      unfold padF
      by_cases hjl : j < ys.length
      · rw [List.getElem?_append_left (by rw [List.length_map]; exact hjl), List.getElem?_map, List.getElem?_eq_getElem hjl, List.getD_eq_getElem?_getD, List.getElem?_eq_getElem hjl]; rfl
      · rw [List.getElem?_append_right (by rw [List.length_map]; omega), List.length_map, List.getElem?_drop, Array.getElem?_toList, List.getD_eq_getElem?_getD, List.getElem?_eq_none (by omega)]
        have e : ys.length + (j - ys.length) = j := by omega
        rw [e]; exact made_get j hj
    · unfold World.frozen?; rw [setRow_heap W g _ _ t (0, 0) hg]; rfl
    · exact ⟨rfl, rfl, rfl, by simp [World.setRow], fun i _ hi => setRow_other W g i _ hi⟩

set_option maxRecDepth 100000 in
set_option maxHeartbeats 2000000 in
/-- digest.Sum. -/
theorem sha_any (s : Value) (xs : List UInt8) (w : World) (hx : Bytes w s xs) (hg : Glob w) :
    Calls Tryz.prog 181 #[s] w fun e w' => e = .returned (digV (shaF xs)) ∧ Below w.heap.size w w' := by
  obtain ⟨A, c, rfl, hm⟩ := hx.shape
  have HX := Lib.hid hx
  have hb0 : Below w.heap.size w (w.alloc (.cells #[Value.int .u8 0, Value.int .u8 0, Value.int .u8 0, Value.int .u8 0, Value.int .u8 0, Value.int .u8 0, Value.int .u8 0, Value.int .u8 0, Value.int .u8 0, Value.int .u8 0, Value.int .u8 0, Value.int .u8 0, Value.int .u8 0, Value.int .u8 0, Value.int .u8 0, Value.int .u8 0, Value.int .u8 0, Value.int .u8 0, Value.int .u8 0, Value.int .u8 0, Value.int .u8 0, Value.int .u8 0, Value.int .u8 0, Value.int .u8 0, Value.int .u8 0, Value.int .u8 0, Value.int .u8 0, Value.int .u8 0, Value.int .u8 0, Value.int .u8 0, Value.int .u8 0, Value.int .u8 0] 177)) := (Below.refl _ _).alloc (Nat.le_refl _) _
  have s0 := keep hb0 (hg.sta 0 (by decide))
  have s1 := keep hb0 (hg.sta 1 (by decide))
  have s2 := keep hb0 (hg.sta 2 (by decide))
  have s3 := keep hb0 (hg.sta 3 (by decide))
  have s4 := keep hb0 (hg.sta 4 (by decide))
  have s5 := keep hb0 (hg.sta 5 (by decide))
  have s6 := keep hb0 (hg.sta 6 (by decide))
  have s7 := keep hb0 (hg.sta 7 (by decide))
  clear hb0
  have HG := Lib.hid hg
  clear hx hg
  go_enter Tryz.func181, Tryz.ntmps181
  go_wp2
  obtain ⟨g0, hg0⟩ : ∃ g0, g0 = w.heap.size := ⟨_, rfl⟩
  have h0 : RowB ((w.alloc (.cells #[Value.int .u8 0, Value.int .u8 0, Value.int .u8 0, Value.int .u8 0, Value.int .u8 0, Value.int .u8 0, Value.int .u8 0, Value.int .u8 0, Value.int .u8 0, Value.int .u8 0, Value.int .u8 0, Value.int .u8 0, Value.int .u8 0, Value.int .u8 0, Value.int .u8 0, Value.int .u8 0, Value.int .u8 0, Value.int .u8 0, Value.int .u8 0, Value.int .u8 0, Value.int .u8 0, Value.int .u8 0, Value.int .u8 0, Value.int .u8 0, Value.int .u8 0, Value.int .u8 0, Value.int .u8 0, Value.int .u8 0, Value.int .u8 0, Value.int .u8 0, Value.int .u8 0, Value.int .u8 0] 177)).alloc (.cells #[U (k0 0), U (k0 1), U (k0 2), U (k0 3), U (k0 4), U (k0 5), U (k0 6), U (k0 7)] 230)) g0 32 (fun _ => 0) := by
    refine ⟨fun j hj => keepA _ ?_, fun j hj => ?_⟩
    · rw [hg0, World.cell?_alloc_new]
      have := j32 (fun _ => B8 0) j hj
      exact this
    · unfold World.frozen?; rw [heap_alloc_old _ _ (by rw [hg0]; simp), hg0, heap_alloc_new]; rfl
  have h1 : RowU ((w.alloc (.cells #[Value.int .u8 0, Value.int .u8 0, Value.int .u8 0, Value.int .u8 0, Value.int .u8 0, Value.int .u8 0, Value.int .u8 0, Value.int .u8 0, Value.int .u8 0, Value.int .u8 0, Value.int .u8 0, Value.int .u8 0, Value.int .u8 0, Value.int .u8 0, Value.int .u8 0, Value.int .u8 0, Value.int .u8 0, Value.int .u8 0, Value.int .u8 0, Value.int .u8 0, Value.int .u8 0, Value.int .u8 0, Value.int .u8 0, Value.int .u8 0, Value.int .u8 0, Value.int .u8 0, Value.int .u8 0, Value.int .u8 0, Value.int .u8 0, Value.int .u8 0, Value.int .u8 0, Value.int .u8 0] 177)).alloc (.cells #[U (k0 0), U (k0 1), U (k0 2), U (k0 3), U (k0 4), U (k0 5), U (k0 6), U (k0 7)] 230)) (g0 + 1) 8 (absN k0 xs 0) := by
    have e : g0 + 1 = (w.alloc (.cells #[Value.int .u8 0, Value.int .u8 0, Value.int .u8 0, Value.int .u8 0, Value.int .u8 0, Value.int .u8 0, Value.int .u8 0, Value.int .u8 0, Value.int .u8 0, Value.int .u8 0, Value.int .u8 0, Value.int .u8 0, Value.int .u8 0, Value.int .u8 0, Value.int .u8 0, Value.int .u8 0, Value.int .u8 0, Value.int .u8 0, Value.int .u8 0, Value.int .u8 0, Value.int .u8 0, Value.int .u8 0, Value.int .u8 0, Value.int .u8 0, Value.int .u8 0, Value.int .u8 0, Value.int .u8 0, Value.int .u8 0, Value.int .u8 0, Value.int .u8 0, Value.int .u8 0, Value.int .u8 0] 177)).heap.size := by rw [hg0]; simp
    rw [e]
    exact ⟨fun j hj => by
      rw [World.cell?_alloc_new]
      have : j = 0 ∨ j = 1 ∨ j = 2 ∨ j = 3 ∨ j = 4 ∨ j = 5 ∨ j = 6 ∨ j = 7 := by omega
      rcases this with rfl | rfl | rfl | rfl | rfl | rfl | rfl | rfl <;> rfl, fun j hj => by unfold World.frozen?; rw [heap_alloc_new]; rfl⟩
  have h2 : Below w.heap.size w ((w.alloc (.cells #[Value.int .u8 0, Value.int .u8 0, Value.int .u8 0, Value.int .u8 0, Value.int .u8 0, Value.int .u8 0, Value.int .u8 0, Value.int .u8 0, Value.int .u8 0, Value.int .u8 0, Value.int .u8 0, Value.int .u8 0, Value.int .u8 0, Value.int .u8 0, Value.int .u8 0, Value.int .u8 0, Value.int .u8 0, Value.int .u8 0, Value.int .u8 0, Value.int .u8 0, Value.int .u8 0, Value.int .u8 0, Value.int .u8 0, Value.int .u8 0, Value.int .u8 0, Value.int .u8 0, Value.int .u8 0, Value.int .u8 0, Value.int .u8 0, Value.int .u8 0, Value.int .u8 0, Value.int .u8 0] 177)).alloc (.cells #[U (k0 0), U (k0 1), U (k0 2), U (k0 3), U (k0 4), U (k0 5), U (k0 6), U (k0 7)] 230)) := ((Below.refl _ _).alloc (Nat.le_refl _) _).alloc (by simp) _
  change Code.wp _ _ _ _ ((w.alloc (.cells #[Value.int .u8 0, Value.int .u8 0, Value.int .u8 0, Value.int .u8 0, Value.int .u8 0, Value.int .u8 0, Value.int .u8 0, Value.int .u8 0, Value.int .u8 0, Value.int .u8 0, Value.int .u8 0, Value.int .u8 0, Value.int .u8 0, Value.int .u8 0, Value.int .u8 0, Value.int .u8 0, Value.int .u8 0, Value.int .u8 0, Value.int .u8 0, Value.int .u8 0, Value.int .u8 0, Value.int .u8 0, Value.int .u8 0, Value.int .u8 0, Value.int .u8 0, Value.int .u8 0, Value.int .u8 0, Value.int .u8 0, Value.int .u8 0, Value.int .u8 0, Value.int .u8 0, Value.int .u8 0] 177)).alloc (.cells #[U (k0 0), U (k0 1), U (k0 2), U (k0 3), U (k0 4), U (k0 5), U (k0 6), U (k0 7)] 230))
  obtain ⟨W2, hW2⟩ : ∃ W2, (w.alloc (.cells #[Value.int .u8 0, Value.int .u8 0, Value.int .u8 0, Value.int .u8 0, Value.int .u8 0, Value.int .u8 0, Value.int .u8 0, Value.int .u8 0, Value.int .u8 0, Value.int .u8 0, Value.int .u8 0, Value.int .u8 0, Value.int .u8 0, Value.int .u8 0, Value.int .u8 0, Value.int .u8 0, Value.int .u8 0, Value.int .u8 0, Value.int .u8 0, Value.int .u8 0, Value.int .u8 0, Value.int .u8 0, Value.int .u8 0, Value.int .u8 0, Value.int .u8 0, Value.int .u8 0, Value.int .u8 0, Value.int .u8 0, Value.int .u8 0, Value.int .u8 0, Value.int .u8 0, Value.int .u8 0] 177)).alloc (.cells #[U (k0 0), U (k0 1), U (k0 2), U (k0 3), U (k0 4), U (k0 5), U (k0 6), U (k0 7)] 230) = W2 := ⟨_, rfl⟩
  rw [hW2] at h0 h1 h2 ⊢
  have hgw : g0 + 1 = w.heap.size + 1 := by rw [hg0]
  rw [← hgw, ← hg0]
  have H0 := Lib.hid h0
  have H1 := Lib.hid h1
  have H2 := Lib.hid h2
  have HG0 := Lib.hid hg0
  clear h0 h1 h2 s0 s1 s2 s3 s4 s5 s6 s7 hW2 hgw hg0
  go_loopw [5] (fun v wr => ∃ k : Nat, 64 * k ≤ xs.length ∧ Hid (Bytes w v (xs.drop (64 * k))) ∧ Hid (RowU wr (g0 + 1) 8 (absN k0 xs k)) ∧ Hid (RowB wr g0 32 (fun _ => 0)) ∧ Hid (Below w.heap.size w wr)) (fun v _ => lenOf v)
  case atStart => exact ⟨0, Nat.zero_le _, HX, H1, H0, H2⟩
  case round =>
    obtain ⟨k, hk, hbs, hrs, hr0, hbw⟩ := hrel
    obtain ⟨ys, hys⟩ : ∃ ys, xs.drop (64 * k) = ys := ⟨_, rfl⟩
    have HYL : Hid (ys.length = xs.length - 64 * k) := Lib.hid (by rw [← hys, List.length_drop])
    have HAB : Hid (absN k0 xs (k + 1) = absF (absN k0 xs k) (ys.take 64)) := Lib.hid (by rw [← hys]; rfl)
    have HYN : Hid (xs.drop (64 * (k + 1)) = ys.drop 64) := Lib.hid (by rw [← hys, List.drop_drop]; congr 1)
    rw [hys] at hbs
    obtain ⟨A1, c1, rfl, hm1⟩ := hbs.out.shape
    by_cases hlt : 64 ≤ ys.length
    · obtain ⟨ad, had, _⟩ := hbs.out.at 0 (by omega)
      subst had
      have hc1 : ys.length ≤ c1 := by
        obtain ⟨A', c', h1, ⟨h2, h3⟩, _, _⟩ := hbs.out
        injection h1 with _ _ h1; omega
      have hc2 : 64 ≤ c1 := by omega
      have hl2 : (64 : Int) ≤ ys.length := by omega
      have hc3 : (64 : Int) ≤ c1 := by omega
      have hc4 : (ys.length : Int) ≤ c1 := by omega
      have HB1 := Lib.hid ((hbs.out.below hbw.out).pre 64 hlt)
      have HGR := Lib.hid (HG.out.below hbw.out)
      clear hys
      go_wp2_with fail
      refine (absorb_any _ ad c1 _ _ _ hrs.out HB1.out (by rw [List.length_take]; omega) hc2 HGR.out).mono ?_
      rintro e w3 ⟨⟨v, rfl⟩, hrs3, hsm3⟩
      have HR3 : Hid (RowU w3 (g0 + 1) 8 (absN k0 xs (k + 1))) := Lib.hid (by rw [HAB.out]; exact hrs3)
      have HB3 : Hid (Below w.heap.size w w3) := Lib.hid (hbw.out.trans (hsm3.below (fun k hk => by have := HG0.out; omega) hbw.out.size))
      have HR0 : Hid (RowB w3 g0 32 (fun _ => 0)) := Lib.hid (hr0.out.same hsm3 (by omega))
      clear hrs3 hsm3
      by_cases hcc : c1 = 64
      · have hyy : ys.length = 64 := by omega
        have HZ : Hid (Bytes w (.slice (some ad) 0 0) (xs.drop (64 * (k + 1)))) := Lib.hid (by
          have : ys.drop 64 = [] := List.drop_eq_nil_of_le (by omega)
          rw [HYN.out, this]
          exact ⟨_, _, rfl, ⟨Nat.le_refl _, fun e => by cases e⟩, by simp, fun i hi => by simp at hi⟩)
        have hle : 64 * (k + 1) ≤ xs.length := by have := HYL.out; omega
        clear hc1 hc2 hl2 hc3 hc4
        rw [hyy, hcc]
        go_wp2
        go_roundw
        case rel => exact ⟨k + 1, hle, HZ, HR3, HR0, HB3⟩
        case measure => simp [lenOf, hyy]
      · have HZ : Hid (Bytes w (.slice (some (ad.add 64)) (ys.length - 64) (c1 - 64)) (xs.drop (64 * (k + 1)))) := Lib.hid (by
          rw [HYN.out]; exact hbs.out.cut 64 hlt)
        have hle : 64 * (k + 1) ≤ xs.length := by have := HYL.out; omega
        go_wp2
        go_roundw
        case rel => exact ⟨k + 1, hle, HZ, HR3, HR0, HB3⟩
        case measure => simp [lenOf]; omega
    · have hr : ys.length < 64 := by omega
      have hltb : decide ((64 : Int) ≤ ys.length) = false := decide_eq_false (by omega)
      have HYS := Lib.hid hys
      obtain ⟨i0, hi0, hzz⟩ := Option.map_eq_some_iff.1 info_u8
      obtain ⟨g2, hg2⟩ : ∃ g2, g2 = wr.heap.size := ⟨_, rfl⟩
      obtain ⟨W3, hW3⟩ : ∃ W3, W3 = wr.alloc (.cells (madeCells #[.int .u8 0] 128) 5) := ⟨_, rfl⟩
      have hmk : (Instr.makeSlice 28 (.int .i64 64) (.int .i64 128)).run Tryz.prog wr = .ok (.slice (some ⟨g2, 0, none⟩) 64 128) W3 := by
        have e : i0.zero = some (.int .u8 0) ∧ i0.size = 1 ∧ i0.bytes = 1 := by injection hzz with h1 h2; injection h2 with h2 h3; exact ⟨h1, h2, h3⟩
        have h := run_make (P := Tryz.prog) wr 28 5 i0 (.int .u8 0) Tryz.underlying28 hi0 e.1 .i64 .i64 64 128 (by decide) (by decide) (by rw [e.2.2]; decide) (by decide)
        rw [e.2.1] at h
        rw [hW3, hg2]; exact h
      have hrow3 : W3.heap[g2]? = some (.cells (madeCells #[.int .u8 0] 128) 5 (0, 0)) := by rw [hW3, hg2]; exact heap_alloc_new _ _
      have hb3 : Below wr.heap.size wr W3 := by rw [hW3]; exact (Below.refl _ _).alloc (Nat.le_refl _) _
      have hgg : g0 + 1 < g2 := by rw [hg2]; exact cell_old (hrs.out.cell 0 (by decide))
      have hbW : Below w.heap.size w W3 := hbw.out.trans (hb3.mono hbw.out.size)
      have HX3 := hbs.out.below hbW
      obtain ⟨w4, hcp, hr4, hs4⟩ := copy_bytes W3 g2 64 128 _ hrow3 A1 c1 ys HX3 (by omega)
      have c5 := hr4.cell ys.length (by omega)
      have f5 := hr4.free ys.length (by omega)
      obtain ⟨W5, hW5⟩ : ∃ W5, W5 = w4.setCell ⟨g2, ys.length, none⟩ (B8 128) := ⟨_, rfl⟩
      have HR5 : Hid (RowB W5 g2 128 (fun j => if j = ys.length then 128 else padF ys j)) := Lib.hid (by rw [hW5]; exact hr4.set (by omega) 128)
      have HSM : Hid (Same (fun k => k ≠ g2) W3 W5) := Lib.hid (by rw [hW5]; exact hs4.setCell (.inl (fun h => h rfl)) _)
      have HB5 : Hid (Below w.heap.size w W5) := Lib.hid (hbW.trans (HSM.out.below (fun k hk => by have := HG0.out; omega) hbW.size))
      have HRS5 : Hid (RowU W5 (g0 + 1) 8 (absN k0 xs k)) := Lib.hid ((hrs.out.below hb3).same HSM.out (by omega))
      have HR05 : Hid (RowB W5 g0 32 (fun _ => 0)) := Lib.hid ((hr0.out.below hb3).same HSM.out (by omega))
      have HGG := Lib.hid hgg
      have HK : Hid (k = xs.length / 64) := Lib.hid (by have := HYL.out; omega)
      have hW5' : w4.setCell ⟨g2, ys.length, none⟩ (.int .u8 128) = W5 := hW5.symm
      have hlp : (ys.length : Int) < 64 := by omega
      clear hW3 hg2 hrow3 hb3 hbW HX3 hs4 hr4 hys hi0 hzz hgg hW5
      go_upto_if 31 with (fail)
      go_cut [0, 6] from 32 to 33 (fun x v wx => x = .slice A xs.length c ∧ v = .slice (some ⟨g2, 0, none⟩) (padL ys.length) 128 ∧ wx = W5)
      case first =>
        by_cases h55 : 55 < ys.length
        · have hL : padL ys.length = 128 := by unfold padL; rw [if_pos h55]
          have h56 : (55 : Int) < ys.length := by omega
          go_wp2_with fail
          go_meet
          exact ⟨rfl, by rw [hL], rfl⟩
        · have hL : padL ys.length = 64 := by unfold padL; rw [if_neg h55]
          have h56 : (ys.length : Int) ≤ 55 := by omega
          go_wp2_with fail
          go_meet
          exact ⟨rfl, by rw [hL], rfl⟩
      case rest =>
        obtain ⟨rfl, rfl, rfl⟩ := hcut
        obtain ⟨L, hL⟩ : ∃ L, padL ys.length = L := ⟨_, rfl⟩
        have hL2 : L = 64 ∨ L = 128 := by rw [← hL]; unfold padL; split <;> omega
        have hL3 : ys.length + 9 ≤ L := by rw [← hL]; unfold padL; split <;> omega
        rw [hL]
        have HL := Lib.hid hL
        have HL2 := Lib.hid hL2
        have l1 : (8 : Int) ≤ L := by omega
        have l2 : 0 ≤ (L : Int) - 8 := by omega
        have l3 : (L : Int) ≤ 128 := by omega
        have l3' : L ≤ 128 := by omega
        have l4 : IntKind.i64.wrap ((L : Int) - 8) = (L : Int) - 8 := IntWalk.i64_in _ (by omega)
        have l5 : ((L : Int) - 8).toNat = L - 8 := by omega
        have l6 : IntKind.u64.wrap (xs.length : Int) = xs.length := by rw [wrap_u64]; omega
        have l7 : IntKind.u64.wrap ((xs.length : Int) * 8) = xs.length * 8 := by rw [wrap_u64]; omega
        have HE8 : Hid ((xs.length : Int) * 8 = ((xs.length * 8 : Nat) : Int)) := Lib.hid (by omega)
        have l8 : (L : Int) - 8 ≤ L := by omega
        clear hL hL2 hltb hlp hmk hcp c5 f5 hW5' hr
        go_wp2_with fail
        rw [HE8.out]
        have e8 : L - (L - 8) = 8 := by omega
        rw [e8]
        refine (put_any g2 (L - 8) 8 _ 128 (xs.length * 8) _ _ HR5.out (by omega) (by decide) (by omega)).mono ?_
        rintro e w6 ⟨⟨v, rfl⟩, hr6, hs6⟩
        have HPP : Hid (putF (fun j => if j = ys.length then 128 else padF ys j) (L - 8) 8 (xs.length * 8) 8 = padP xs) := Lib.hid (by
          unfold padP; rw [← HK.out, HYS.out, HL.out])
        rw [HPP.out] at hr6
        have HR6 := Lib.hid hr6
        have HB6 : Hid (Below w.heap.size w w6) := Lib.hid (HB5.out.trans (hs6.below (fun k hk => by have := HG0.out; have := HGG.out; omega) HB5.out.size))
        have HRS6 : Hid (RowU w6 (g0 + 1) 8 (absJ (absN k0 xs k) (padP xs) 0)) := Lib.hid (HRS5.out.same hs6 (by have := HGG.out; omega))
        have HR06 : Hid (RowB w6 g0 32 (fun _ => 0)) := Lib.hid (HR05.out.same hs6 (by have := HGG.out; omega))
        clear hr6 hs6 l1 l2 l3 l4 l5 l6 l7 l8 e8 HR5 HB5 HRS5 HR05 HSM
        go_wp2
        go_loopw [6] (fun v wr => ∃ j o : Nat, 64 * j ≤ L ∧ v = .slice (some ⟨g2, o, none⟩) (L - 64 * j) (128 - 64 * j) ∧ (64 * j < 128 → o = 64 * j) ∧ Hid (RowU wr (g0 + 1) 8 (absJ (absN k0 xs k) (padP xs) j)) ∧ Hid (RowB wr g2 128 (padP xs)) ∧ Hid (RowB wr g0 32 (fun _ => 0)) ∧ Hid (Below w.heap.size w wr)) (fun v _ => lenOf v)
        case atStart => exact ⟨0, 0, Nat.zero_le _, rfl, fun _ => rfl, HRS6, HR6, HR06, HB6⟩
        case round =>
          obtain ⟨j, o, hj, rfl, ho, hrs, hr2, hr0, hbw⟩ := hrel
          have HO := Lib.hid ho
          clear ho
          by_cases hlt : 64 * j < L
          · have hm : 64 ≤ L - 64 * j := by have := HL2.out; omega
            have HMQ : Hid (L - 64 * j ≤ 128 - 64 * j) := Lib.hid (by omega)
            have HL64 : Hid (L - 64 * j - 64 = L - 64 * (j + 1)) := Lib.hid (by omega)
            have HQ64 : Hid (128 - 64 * j - 64 = 128 - 64 * (j + 1)) := Lib.hid (by omega)
            have HQC : Hid (128 - 64 * j = 64 ∧ j = 1 ∨ 128 - 64 * j = 128 ∧ j = 0) := Lib.hid (by omega)
            have hoj : o = 64 * j := HO.out (by omega)
            subst hoj
            have HBK := Lib.hid (hr2.out.bytes (64 * j) 64 (128 - 64 * j) (by omega) (by omega))
            have HJ1 : 64 * (j + 1) ≤ L := by omega
            have HGR := Lib.hid (HG.out.below hbw.out)
            obtain ⟨m, hmm⟩ : ∃ m, L - 64 * j = m := ⟨_, rfl⟩
            obtain ⟨q, hq⟩ : ∃ q, 128 - 64 * j = q := ⟨_, rfl⟩
            rw [hmm] at hm HMQ HL64 ⊢
            rw [hq] at HMQ HQ64 HQC HBK ⊢
            have m1 : (64 : Int) ≤ m := by omega
            have m2 : (0 : Int) < m := by omega
            have m3 : (m : Int) ≤ q := by have := HMQ.out; omega
            have m4 : (64 : Int) ≤ q := by omega
            clear hmm hq hlt
            go_wp2_with fail
            refine (absorb_any (g0 + 1) ⟨g2, 64 * j, none⟩ q _ _ _ hrs.out HBK.out (by unfold rowL; simp) (by omega) HGR.out).mono ?_
            rintro e w7 ⟨⟨v, rfl⟩, hrs7, hsm7⟩
            have HR7 : Hid (RowU w7 (g0 + 1) 8 (absJ (absN k0 xs k) (padP xs) (j + 1))) := Lib.hid hrs7
            have HB7 : Hid (Below w.heap.size w w7) := Lib.hid (hbw.out.trans (hsm7.below (fun k hk => by have := HG0.out; omega) hbw.out.size))
            have HR07 : Hid (RowB w7 g0 32 (fun _ => 0)) := Lib.hid (hr0.out.same hsm7 (by omega))
            have HR27 : Hid (RowB w7 g2 128 (padP xs)) := Lib.hid (hr2.out.same hsm7 (by have := HGG.out; omega))
            clear hrs7 hsm7
            by_cases hcc : q = 64
            · subst hcc
              go_wp2
              go_roundw
              case rel => exact ⟨j + 1, 64 * j, HJ1, by rw [← HL64.out, ← HQ64.out], fun h => by have := HQC.out; omega, HR7, HR27, HR07, HB7⟩
              case measure => simp [lenOf]; omega
            · have hqi : ¬ (q : Int) = 64 := by omega
              go_wp2
              go_roundw
              case rel => exact ⟨j + 1, 64 * (j + 1), HJ1, by rw [← HL64.out, ← HQ64.out]; rfl, fun _ => rfl, HR7, HR27, HR07, HB7⟩
              case measure => simp [lenOf]; omega
          · have hje : L - 64 * j = 0 := by omega
            have HJE : Hid (j = L / 64) := Lib.hid (by have := HL2.out; omega)
            clear hlt
            have HF : Hid (absJ (absN k0 xs k) (padP xs) j = shaS xs) := Lib.hid (by
              unfold shaS; rw [← HK.out, HYS.out, HL.out, ← HJE.out])
            rw [HF.out] at hrs
            generalize hFF : shaS xs = F at *
            have HRF := Lib.hid hFF
            clear hFF
            have c0 := hrs.out.cell 0 (by decide)
            have c1' := hrs.out.cell 1 (by decide)
            have c2 := hrs.out.cell 2 (by decide)
            have c3 := hrs.out.cell 3 (by decide)
            have c4 := hrs.out.cell 4 (by decide)
            have c5 := hrs.out.cell 5 (by decide)
            have c6 := hrs.out.cell 6 (by decide)
            have c7 := hrs.out.cell 7 (by decide)
            go_wp2
            clear c0 c1' c2 c3 c4 c5 c6 c7 hje hrs hr2
            go_loopw [7, 8, 54] (fun _ _ i wr3 => ∃ t : Nat, t ≤ 8 ∧ i = I t ∧ Hid (RowB wr3 g0 32 (outF F t)) ∧ Hid (Below w.heap.size w wr3)) (fun _ _ i _ => 8 - (intOf i).toNat)
            case atStart => exact ⟨0, Nat.zero_le _, rfl, hr0, hbw⟩
            case round =>
              obtain ⟨t, ht, rfl, hrt, hbt⟩ := hrel
              by_cases hlt : t < 8
              · have hlt2 : (t : Int) < 8 := by omega
                have a1 : 0 ≤ 4 * (t : Int) := by omega
                have a2 : 4 * (t : Int) ≤ 4 * (t : Int) + 4 := by omega
                have a3 : 4 * (t : Int) + 4 ≤ 32 := by omega
                have a4 : (4 * (t : Int)).toNat = 4 * t := by omega
                have a5 : (4 * (t : Int) + 4).toNat = 4 * t + 4 := by omega
                have a6 : ¬ (4 * (t : Int) = 32) := by omega
                have a7 : ¬ (4 * t = 32) := by omega
                have a8 : 4 * t + 4 - 4 * t = 4 := by omega
                have ha := run_index8 (fun i => U (F i)) t hlt wr
                have t1 : 0 ≤ tn (F t) := by unfold tn; omega
                have t2 : IntKind.u64.wrap (tn (F t)) = tn (F t) := by rw [wrap_u64]; unfold tn; have := (F t).isLt; omega
                go_wp2_with fail
                have htn : tn (F t) = ((F t).toNat : Int) := rfl
                rw [htn]
                refine (put_any g0 (4 * t) 4 _ 32 (F t).toNat _ _ hrt.out (by omega) (by decide) (by have := (F t).isLt; omega)).mono ?_
                rintro e w8 ⟨⟨v8, rfl⟩, hr8, hs8⟩
                have HR8 : Hid (RowB w8 g0 32 (outF F (t + 1))) := Lib.hid hr8
                have HB8 : Hid (Below w.heap.size w w8) := Lib.hid (hbt.out.trans (hs8.below (fun k hk => by have := HG0.out; omega) hbt.out.size))
                clear hr8 hs8 htn
                go_wp2
                go_roundw
                case rel => exact ⟨t + 1, by omega, by go_num, HR8, HB8⟩
                case measure => simp [intOf]; omega
              · have hte : t = 8 := by omega
                have HRE : Hid (RowB wr g0 32 (outF F 8)) := Lib.hid (by have h := hrt.out; rw [hte] at h; exact h)
                have hltb : decide ((t : Int) < 8) = false := decide_eq_false (by omega)
                clear hlt ht hte hrt
                generalize hOO : outF F 8 = O at *
                have HOO := Lib.hid hOO
                clear hOO
                go_wp2_with (first | (refine wpList_loadD rfl _ rfl g0 O rfl HRE.out ?_) | (refine wpList_storeD rfl _ _ rfl g0 O O rfl rfl HRE.out ?_; intro w9 hr9 hs9))
                refine bodyPost_ret (results_dig rfl _ _ g0 O rfl hr9) rfl ?_
                refine ⟨by unfold shaF; rw [HRF.out, HOO.out], ?_⟩
                exact hbt.out.trans (hs9.below (fun k hk => by have := HG0.out; omega) hbt.out.size)

end Go.Proofs.YtgacdmkhgllceaaGreatDoor
