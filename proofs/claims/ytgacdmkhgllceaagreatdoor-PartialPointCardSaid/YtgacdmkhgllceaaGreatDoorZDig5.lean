import Derived.Test.YtgacdmkhgllceaaGreatDoorZSlices1
import Derived.Test.YtgacdmkhgllceaaGreatDoorZApp
import Derived.Test.YtgacdmkhgllceaaGreatDoorZDig4
import Derived.Laws.IdiomStrings
namespace Go.Proofs.YtgacdmkhgllceaaGreatDoor
open Go.RowKit Go.Shelf

theorem flat_encB : ∀ ys : List UInt8, ys.flatMap encB = ys.map B8
  | [] => rfl
  | y :: ys => by rw [List.flatMap_cons, flat_encB ys]; rfl

/-- A whole slice of bytes appended. -/
theorem app_bytes {P : Program} {ops : Array Oper} {rest : List Oper} {o : Oper} {a : Act} {Q : Exit → Act → World → Prop} {w0 W : World} (base : Nat) (hgd : o.guard = none) (s x : Operand) (t e : TypeId)
    (ho : o.op = .call { callee := .builtin .append, args := #[s, x], argTypes := #[t, t] })
    (ht : P.underlying t = some (.slice e)) (hinfo : (P.info? e).map (fun i => (i.zero, i.size, i.bytes)) = some (some (.int .u8 0), 1, 1))
    (v : Value) (xs : List UInt8) (hs : a.eval s = v) (u : Value) (ys : List UInt8) (hx : a.eval x = u) (hu : Bytes W u ys)
    (HO : OwnOf e 1 encB W base v xs) (HB : Below base w0 W) (hbase : base ≤ W.heap.size) (hl : (xs.length + ys.length) * 1 ≤ 140737488355328)
    (h : ∀ v1 w1, OwnOf e 1 encB w1 base v1 (xs ++ ys) → Below base w0 w1 → (∀ k, k < W.heap.size → v.ownBlock ≠ some k → w1.heap[k]? = W.heap[k]?) → W.heap.size ≤ w1.heap.size →
      (v1.ownBlock = v.ownBlock ∨ ∃ k, v1.ownBlock = some k ∧ W.heap.size ≤ k) → wpList P ops Q rest (a.put o.dst v1) w1) :
    wpList P ops Q (o :: rest) a W := by
  obtain ⟨i0, hi, hzz⟩ := Option.map_eq_some_iff.1 hinfo
  simp only [Prod.mk.injEq] at hzz
  obtain ⟨hz0, hz1, hz2⟩ := hzz
  obtain ⟨A, c, rfl, ⟨hc1, hc2⟩, hm, he⟩ := hu
  cases A with
  | none =>
    obtain rfl := hc2 rfl
    have hy : ys = [] := List.eq_nil_of_length_eq_zero (by omega)
    subst hy
    refine wpList_append_own_none hgd s x t ho base e i0 1 ht hi v xs.length (xs.flatMap encB) hs HO hx ?_
    exact h v W (by rw [List.append_nil]; exact HO) HB (fun _ _ _ => rfl) (Nat.le_refl _) (.inl rfl)
  | some ad =>
    refine wpList_append_own_at W hgd s x t ho base e i0 (.int .u8 0) 1 1 ht hi hz0 hz1 hz2 rfl (by decide) v xs.length (xs.flatMap encB) hs HO ad ys.length c (ys.flatMap encB) hx (by rw [flat_encB]; simp)
      ?_ ?_ (by simp only [maxLen]; omega) hl hbase ?_
    · intro j u hj
      rw [flat_encB, List.getElem?_map] at hj
      obtain ⟨y, hy, rfl⟩ := Option.map_eq_some_iff.1 hj
      obtain ⟨hj2, rfl⟩ := List.getElem?_eq_some_iff.1 hy
      obtain ⟨ad', e2, e3⟩ := he j hj2
      injection e2 with e2
      subst e2
      rw [Nat.mul_one] at e3
      exact e3
    · intro u hu
      obtain ⟨y, _, hy⟩ := List.mem_flatMap.1 hu
      simp at hy; subst hy; rfl
    · intro v1 w1 hown hg _ hat
      refine h v1 w1 ?_ (HB.grown hg hbase (fun k hk => (HO.base_le k hk).1)) (fun k hk hne => hg.block k hk (fun e => hne e.symm)) hg.size ?_
      · unfold OwnOf; rw [List.flatMap_append, List.length_append]; exact hown
      · rcases hat with hat | hat
        · exact .inl hat
        · exact .inr ⟨_, hat, Nat.le_refl _⟩


/-- A cell that is a list of bytes. -/
def RowBE (w : World) (a : Addr) (xs : List UInt8) : Prop := ∃ v, w.cell? a = some v ∧ Bytes w v xs
def RowsB (w : World) (v : Value) (xs : List (List UInt8)) : Prop := Sl 1 RowBE w v xs
theorem RowBE.stays : Stays RowBE := fun _ _ _ _ h ⟨v, e1, e2⟩ => ⟨v, (h _ (cell_old e1)).trans e1, Sl.stays ByteE.stays h e2⟩
theorem RowsB.below {w w' : World} {v : Value} {xs : List (List UInt8)} (e : RowsB w v xs) (h : Below w.heap.size w w') : RowsB w' v xs := Sl.stays RowBE.stays (Below.old h) e
theorem RowsB.shape {w : World} {v : Value} {xs : List (List UInt8)} (h : RowsB w v xs) : ∃ A c, v = .slice A xs.length c ∧ xs.length ≤ 140737488355328 := by
  obtain ⟨A', c', h1, h2, h3, h4⟩ := h
  exact ⟨A', c', h1, h3⟩
theorem RowsB.at {w : World} {A : Option Addr} {n c : Nat} {xs : List (List UInt8)} (h : RowsB w (.slice A n c) xs) (i : Nat) (hi : i < xs.length) : ∃ ad u, A = some ad ∧ w.cell? (ad.add i) = some u ∧ Bytes w u xs[i] := by
  obtain ⟨A', c', h1, h2, h3, h4⟩ := h
  injection h1 with h1 h5 h6
  obtain ⟨ad, e1, u, e2, e3⟩ := h4 i hi
  rw [Nat.mul_one] at e2
  exact ⟨ad, u, h1.trans e1, e2, e3⟩

/-- A row with nothing in it yet, and room. -/
theorem growB_any (n : Nat) (w : World) (hn : n ≤ 140737488355328) :
    Calls Tryz.prog 206 #[.slice none 0 0, I n] w fun e w' => ∃ v, e = .returned v ∧ OwnOf 5 1 encB w' w.heap.size v [] ∧ Below w.heap.size w w' := by
  by_cases h : n = 0
  · subst h
    go_enter Tryz.func206, Tryz.ntmps206
    go_wp2
    go_ret
    exact ⟨_, rfl, OwnOf.nil _ _ _ _ _, Below.refl _ _⟩
  · have h' : 0 < n := by omega
    clear h
    go_enter Tryz.func206, Tryz.ntmps206
    have hb : Tryz.t5.bytes = 1 := by kernel_rfl
    have HB := Lib.hid hb
    clear hb
    go_wp2_with fail
    all_goals first
      | (have h1 : (281474976710656 : Int) < (n : Int) * (Tryz.t5.bytes : Int) := by assumption
         rw [HB.out] at h1
         exfalso; omega)
      | (have h1 : 281474976710656 < Builtin.nextslicecap n 0 * Tryz.t5.bytes := by assumption
         rw [HB.out] at h1
         unfold Builtin.nextslicecap at h1
         rw [if_pos (by omega)] at h1
         exfalso; omega)
      | skip
    have hge := grownCap_ge w n 0 5
    have hcm := grownCap_le_maxLen w n 0 5 (by unfold maxLen; omega)
    go_ret
    refine ⟨_, rfl, ⟨rfl, .inr ⟨w.heap.size, _, _, rfl, Nat.le_refl _, World.alloc_heap_new w _, Nat.zero_le _, hcm, ?_, by simp⟩⟩, ((Below.refl _ w).alloc (Nat.le_refl _) _).drew⟩
    rw [Array.size_append, size_zeroCells, size_zeroCells]
    show n * 1 + (grownCap w n 0 5 - n) * 1 = grownCap w n 0 5 * 1
    omega

/-- How many elements all lists have together. -/
def totB (xss : List (List UInt8)) : Nat := xss.flatten.length
theorem sumB_take {xss : List (List UInt8)} {k : Nat} (h : k < xss.length) : totB (xss.take (k + 1)) = totB (xss.take k) + xss[k].length := by
  unfold totB
  rw [List.take_succ_eq_append_getElem h, List.flatten_append, List.length_append]; simp
theorem flatB_take {xss : List (List UInt8)} {k : Nat} (h : k < xss.length) : (xss.take (k + 1)).flatten = (xss.take k).flatten ++ xss[k] := by
  rw [List.take_succ_eq_append_getElem h, List.flatten_append]; simp
theorem flatB_le {xss : List (List UInt8)} (k : Nat) : totB (xss.take k) ≤ totB xss := by
  unfold totB
  conv => rhs; rw [← List.take_append_drop k xss]
  rw [List.flatten_append, List.length_append]; omega

set_option maxHeartbeats 1000000 in
theorem concatB_any (v : Value) (xss : List (List UInt8)) (w : World) (hv : RowsB w v xss) (hl : totB xss ≤ 140737488355328) :
    Calls Tryz.prog 182 #[v] w fun e w' => ∃ u, e = .returned u ∧ OwnOf 5 1 encB w' w.heap.size u xss.flatten ∧ Below w.heap.size w w' := by
  obtain ⟨A, c, rfl, hm⟩ := hv.shape
  have HV := Lib.hid hv
  have HL := Lib.hid hl
  clear hv hl
  go_enter Tryz.func182, Tryz.ntmps182
  go_wp2
  go_loop [3, 11] (fun s j => ∃ k : Nat, k ≤ xss.length ∧ j = I k ∧ s = I (totB (xss.take k) : Nat)) (fun _ j => xss.length - (intOf j).toNat)
  case atStart => exact ⟨0, Nat.zero_le _, rfl, rfl⟩
  case round =>
    obtain ⟨k, hk, rfl, rfl⟩ := hrel
    by_cases hlt : k < xss.length
    · obtain ⟨ad, u, rfl, hc, hu⟩ := HV.out.at k hlt
      obtain ⟨A1, c1, rfl, hm1⟩ := hu.shape
      have N := Lib.hid (sumB_take hlt)
      have hle := flatB_le (xss := xss) (k + 1)
      have hl := HL.out
      rw [N.out] at hle
      clear hu
      generalize totB (xss.take k) = s at *
      have hn : ¬ ((s : Int) + (xss[k].length : Int) < 0) := by omega
      go_wp2
      go_round
      case rel => exact ⟨k + 1, by omega, by go_num, by rw [N.out]; go_num⟩
      case measure => simp [intOf]; omega
    · have E : Hid (totB (xss.take k) = totB xss) := Lib.hid (by rw [List.take_of_length_le (by omega)])
      rw [E.out]
      go_wp2_with fail
      refine (growB_any (totB xss) _ HL.out).mono ?_
      rintro e w1 ⟨u, rfl, hown, hb⟩
      obtain ⟨A0, c0, rfl⟩ := hown.shape
      have HO := Lib.hid hown
      have HB := Lib.hid hb
      clear hown hb
      go_wp2
      go_loopw [6, 27] (fun s j wr => ∃ q : Nat, q ≤ xss.length ∧ j = I q ∧ Hid (OwnOf 5 1 encB wr w.heap.size s (xss.take q).flatten) ∧ Hid (Below w.heap.size w wr)) (fun _ j _ => xss.length - (intOf j).toNat)
      case atStart => exact ⟨0, Nat.zero_le _, rfl, HO, HB⟩
      case round =>
        obtain ⟨q, hq, rfl, hown, hb⟩ := hrel
        by_cases hlt2 : q < xss.length
        · obtain ⟨ad, u, rfl, hc, hu⟩ := (HV.out.below hb.out).at q hlt2
          have HU := Lib.hid hu
          have N := Lib.hid (flatB_take hlt2)
          have NL := Lib.hid (sumB_take hlt2)
          have hle := flatB_le (xss := xss) (q + 1)
          have hl := HL.out
          rw [NL.out] at hle
          have B9 : Hid (((xss.take q).flatten.length + xss[q].length) * 1 ≤ 140737488355328) := Lib.hid (by unfold totB at hle hl; omega)
          clear hu hle hl
          go_wp2_with (at_builtin; refine app_bytes w.heap.size rfl _ _ 28 5 rfl Tryz.underlying28 info_u8 _ _ rfl _ _ rfl HU.out hown.out hb.out hb.out.size B9.out ?_; intro v1 w1 ho1 hb1 _ _ _)
          go_roundw
          case rel => exact ⟨q + 1, by omega, by go_num, Lib.hid (by rw [N.out]; exact ho1), Lib.hid hb1⟩
          case measure => simp [intOf]; omega
        · have E2 : Hid ((xss.take q).flatten = xss.flatten) := Lib.hid (by rw [List.take_of_length_le (by omega)])
          go_wp2
          go_ret
          exact ⟨_, rfl, by rw [← E2.out]; exact hown.out, hb.out⟩

end Go.Proofs.YtgacdmkhgllceaaGreatDoor

/- digest.Tagged and group.Hash walked. -/
namespace Go.Proofs.YtgacdmkhgllceaaGreatDoor
open Go.RowKit

/-- A digest under a tag. -/
def tagF (tag xs : List UInt8) : Nat → UInt8 := shaF (rowL (shaF tag) 0 32 ++ xs)

theorem under_u8 : Tryz.prog.underlying 5 = some (.int .u8) := by kernel_rfl
/-- The bytes of a string. -/
theorem conv_bytes (s : List UInt8) (W : World) (hl : s.length ≤ 140737488355328) : ∃ v W', (convert 9 28 (strV s)).run Tryz.prog W = .ok v W' ∧ Bytes W' v s ∧ Below W.heap.size W W' := by
  have h := run_bytes_of_string (P := Tryz.prog) W 9 28 5 ⟨s.toArray⟩ Tryz.underlying9 Tryz.underlying28 under_u8
  have hsz : (⟨s.toArray⟩ : ByteArray).size = s.length := by show s.toArray.size = _; simp
  rw [hsz] at h
  refine ⟨_, _, h, ⟨_, _, rfl, ⟨grownCap_ge W s.length 0 _, fun e => by cases e⟩, hl, fun i hi => ⟨_, rfl, ?_⟩⟩, ((Below.refl _ W).drew).alloc (Nat.le_refl _) _⟩
  have hadd : (⟨W.heap.size, 0, none⟩ : Addr).add (i * 1) = ⟨W.heap.size, i, none⟩ := by unfold Addr.add; split <;> simp_all
  rw [hadd]
  unfold ByteE
  rw [cell_of_row _ W.heap.size i _ _ _ (heap_alloc_new W.drew _)]
  exact bytesRow_at ⟨s.toArray⟩ _ i (by show i < s.toArray.size; simpa using hi)

set_option maxRecDepth 100000 in
set_option maxHeartbeats 2000000 in
theorem tagged_any (tag : List UInt8) (v : Value) (xs : List UInt8) (w : World) (hx : Bytes w v xs) (hg : Glob w) (ht : tag.length ≤ 1000) (hl : xs.length ≤ 70368744177664) :
    Calls Tryz.prog 145 #[strV tag, v] w fun e w' => e = .returned (digV (tagF tag xs)) ∧ Below w.heap.size w w' := by
  obtain ⟨A, c, rfl, hm⟩ := hx.shape
  have HX := Lib.hid hx
  have HG := Lib.hid hg
  clear hx hg
  go_enter Tryz.func145, Tryz.ntmps145
  go_wp2_with (first | (refine wpList_allocD rfl rfl ?_; intro g4 W4 HG4 HR4 HB4 hlt4; obtain ⟨vt, Wt, hct, hbt, hbl⟩ := conv_bytes tag W4 (by omega)) | (refine wpList_loadD rfl _ rfl _ _ rfl HR4 ?_))
  refine (sha_any vt tag Wt hbt (HG.out.below ((HB4.trans (hbl.mono (by have := HG4.out; omega)) : Below w.heap.size w Wt)))).mono ?_
  rintro e w2 ⟨rfl, hb2⟩
  have HB2 : Hid (Below w.heap.size w w2) := Lib.hid ((HB4.trans (hbl.mono (by have := HG4.out; omega))).trans (hb2.mono (by have := HG4.out; have := hbl.size; omega)))
  have HR2 : Hid (RowB w2 g4 32 (fun _ => 0)) := Lib.hid ((HR4.below hbl).below hb2)
  have HL2 : Hid (g4 < w2.heap.size) := Lib.hid (by have := hbl.size; have := hb2.size; omega)
  clear hct hbt hbl hb2 HR4 HB4 hlt4
  go_wp2_with (first | (refine wpList_allocD rfl rfl ?_; intro g5 W5 HG5 HR5 HB5 hlt5) | (refine wpList_storeD rfl _ _ rfl _ _ _ rfl rfl HR5 ?_; intro W6 HR6 HS6))
  have h45 : g4 < g5 := by have := HL2.out; have := HG5.out; omega
  have hwg : w.heap.size ≤ g5 := by have := HG4.out; omega
  have HB6 : Hid (Below w.heap.size w W6) := Lib.hid ((HB2.out.trans (HB5.mono HB2.out.size)).trans (HS6.below (fun k hk => by omega) (by have := HB2.out.size; have := HB5.size; omega)))
  have HR46 : Hid (RowB W6 g4 32 (fun _ => 0)) := Lib.hid ((HR2.out.below HB5).same HS6 (by omega))
  have HRW := HR6.bytes 0 32 32 (by decide) (by decide)
  have HXW := HX.out.below HB6.out
  obtain ⟨W7, hW7⟩ : ∃ W7, W6.alloc (.cells #[.slice (some ⟨g5, 0, none⟩) 32 32, .slice A xs.length c] 28) = W7 := ⟨_, rfl⟩
  have HB67 : Below W6.heap.size W6 W7 := by rw [← hW7]; exact (Below.refl _ _).alloc (Nat.le_refl _) _
  have HTB : RowsB W7 (.slice (some ⟨W6.heap.size, 0, none⟩) 2 2) [rowL (shaF tag) 0 32, xs] := by
    refine ⟨_, _, rfl, ⟨Nat.le_refl 2, fun e => by cases e⟩, by show 2 ≤ _; decide, fun i hi => ⟨_, rfl, ?_⟩⟩
    have hi2 : i < 2 := hi
    have hadd : (⟨W6.heap.size, 0, none⟩ : Addr).add (i * 1) = ⟨W6.heap.size, i, none⟩ := by unfold Addr.add; split <;> simp_all
    rw [hadd]
    have : i = 0 ∨ i = 1 := by omega
    rcases this with rfl | rfl
    · exact ⟨_, by rw [← hW7, World.cell?_alloc_new]; rfl, HRW.below HB67⟩
    · exact ⟨_, by rw [← hW7, World.cell?_alloc_new]; rfl, HXW.below HB67⟩
  rw [hW7]
  have HBW7 : Hid (Below w.heap.size w W7) := Lib.hid (HB6.out.trans (HB67.mono HB6.out.size))
  have HR47 : Hid (RowB W7 g4 32 (fun _ => 0)) := Lib.hid (HR46.out.below HB67)
  have hrl : (rowL (shaF tag) 0 32).length = 32 := by unfold rowL; simp
  have HFL : Hid ([rowL (shaF tag) 0 32, xs].flatten = rowL (shaF tag) 0 32 ++ xs) := Lib.hid (by simp)
  refine (concatB_any _ _ W7 HTB (by unfold totB; rw [HFL.out, List.length_append]; omega)).mono ?_
  rintro e w8 ⟨u, rfl, hown8, hb8⟩
  rw [HFL.out] at hown8
  have HU8 := Lib.hid (hown8.bytes (by rw [List.length_append]; omega))
  have HB8 : Hid (Below w.heap.size w w8) := Lib.hid (HBW7.out.trans (hb8.mono HBW7.out.size))
  have HR48 : Hid (RowB w8 g4 32 (fun _ => 0)) := Lib.hid (HR47.out.below hb8)
  clear hown8 hb8 HTB HB67 hW7 HRW HXW HR6 HS6 HB5 HR5 hlt5 hrl h45 hwg
  go_wp2_with fail
  refine (sha_any u _ w8 HU8.out (HG.out.below HB8.out)).mono ?_
  rintro e w9 ⟨rfl, hb9⟩
  have HR49 : RowB w9 g4 32 (fun _ => 0) := HR48.out.below hb9
  have HB9 : Hid (Below w.heap.size w w9) := Lib.hid (HB8.out.trans (hb9.mono HB8.out.size))
  clear hb9
  go_wp2_with (refine wpList_storeD rfl _ _ rfl _ _ _ rfl rfl HR49 ?_; intro W10 HR10 HS10)
  refine bodyPost_ret (results_dig rfl _ _ g4 _ rfl HR10) rfl ?_
  exact ⟨rfl, HB9.out.trans (HS10.below (fun k hk => by have := HG4.out; omega) HB9.out.size)⟩

end Go.Proofs.YtgacdmkhgllceaaGreatDoor

/- group.Hash walked. -/
namespace Go.Proofs.YtgacdmkhgllceaaGreatDoor
open Go.RowKit

theorem and127 : ∀ b : Fin 256, bits .and .u8 (b.val : Int) 127 = ((b.val % 128 : Nat) : Int) := by decide +kernel
set_option maxRecDepth 100000 in
theorem or64 (v b : Nat) (h : v * 256 + b < 9223372036854775808) (hb : b < 256) : bits .or .i64 ((v : Int) * 256) (b : Int) = ((v * 256 + b : Nat) : Int) := by
  have h0 : (v : Int) * 256 = ((v * 256 : Nat) : Int) := by omega
  rw [h0]
  show IntKind.i64.wrap ((BitVec.ofInt 64 ((v * 256 : Nat) : Int) ||| BitVec.ofInt 64 (b : Int)).toNat : Int) = _
  rw [BitVec.ofInt_natCast, BitVec.ofInt_natCast, BitVec.toNat_or, BitVec.toNat_ofNat, BitVec.toNat_ofNat, Nat.mod_eq_of_lt (by omega), Nat.mod_eq_of_lt (by omega)]
  have e : v * 256 ||| b = v * 256 + b := by
    have := Nat.two_pow_add_eq_or_of_lt (i := 8) (b := b) (by omega) v
    have e2 : (2 : Nat) ^ 8 = 256 := rfl
    rw [e2] at this
    rw [Nat.mul_comm v 256]; exact this.symm
  rw [e]
  exact IntWalk.i64_in _ (by omega)

/-- The digest's first byte without its highest bit. -/
def lowF (O : Nat → UInt8) : Nat → UInt8 := fun j => if j = 0 then UInt8.ofNat ((O 0).toNat % 128) else O j
/-- The number that the first bytes are. -/
def hv (O : Nat → UInt8) : Nat → Nat
  | 0 => 0
  | k + 1 => hv O k * 256 + (O k).toNat
theorem hv_lt (O : Nat → UInt8) (k : Nat) : hv (lowF O) (k + 1) < 128 * 256 ^ k := by
  induction k with
  | zero =>
    have : hv (lowF O) (0 + 1) = (lowF O 0).toNat := by simp [hv]
    rw [this]; unfold lowF; rw [if_pos rfl, UInt8.toNat_ofNat']; omega
  | succ k ih =>
    show hv (lowF O) (k + 1) * 256 + (lowF O (k + 1)).toNat < _
    have := (lowF O (k + 1)).toNat_lt
    rw [Nat.pow_succ]; omega
/-- What a list of bytes hashes to, under a tag. -/
def hashN (tag xs : List UInt8) : Nat := hv (lowF (tagF tag xs)) 8 % 1073741789

set_option maxRecDepth 100000 in
set_option maxHeartbeats 2000000 in
theorem hash_any (tag : List UInt8) (v : Value) (xs : List UInt8) (w : World) (hx : Bytes w v xs) (hg : Glob w) (ht : tag.length ≤ 1000) (hl : xs.length ≤ 70368744177664) :
    Calls Tryz.prog 78 #[strV tag, v] w fun e w' => e = .returned (I (hashN tag xs)) ∧ Below w.heap.size w w' := by
  obtain ⟨A, c, rfl, hm⟩ := hx.shape
  have HX := Lib.hid hx
  have HG := Lib.hid hg
  clear hx hg
  go_enter Tryz.func78, Tryz.ntmps78
  go_wp2_with fail
  refine (tagged_any tag _ xs w HX.out HG.out ht hl).mono ?_
  rintro e w2 ⟨rfl, hb2⟩
  obtain ⟨O, hO⟩ : ∃ O, tagF tag xs = O := ⟨_, rfl⟩
  rw [hO]
  have HO := Lib.hid hO
  have HB2 := Lib.hid hb2
  have ha0 : bits .and .u8 ((O 0).toNat : Int) 127 = (((O 0).toNat % 128 : Nat) : Int) := by
    have := and127 ⟨(O 0).toNat, (O 0).toNat_lt⟩; exact this
  have HAE : Hid ((((O 0).toNat % 128 : Nat) : Int) = ((lowF O 0).toNat : Int)) := Lib.hid (by unfold lowF; rw [if_pos rfl, UInt8.toNat_ofNat']; omega)
  rw [HAE.out] at ha0
  clear hb2 hO
  go_wp2_with (first | (refine wpList_allocD rfl rfl ?_; intro g5 W5 HG5 HR5 HB5 hlt5) | (refine wpList_storeD rfl _ _ rfl _ _ _ rfl rfl HR5 ?_; intro W6 HR6 HS6; have c0 := HR6.cell 0 (by decide); have f0 := HR6.free 0 (by decide)))
  have hc : ∀ j, j < 8 → (W6.setCell ⟨g5, 0, none⟩ (B8 (lowF O 0))).cell? ⟨g5, j, none⟩ = some (B8 (lowF O j)) := by
    have h := (HR6.set (k := 0) (by decide) (lowF O 0)).cell
    intro j hj
    rw [h j (by omega)]
    by_cases e : j = 0
    · subst e; rfl
    · rw [if_neg e]; unfold lowF; rw [if_neg e]
  have HC := Lib.hid hc
  have HB7 : Hid (Below w.heap.size w (W6.setCell ⟨g5, 0, none⟩ (B8 (lowF O 0)))) := Lib.hid (((HB2.out.trans (HB5.mono HB2.out.size)).trans (HS6.below (fun k hk => by have := HG5.out; have := HB2.out.size; omega) (by have := HB2.out.size; have := HB5.size; omega))).setCell (by have := HG5.out; have := HB2.out.size; show w.heap.size ≤ g5; omega) _)
  clear hc c0 f0 HR6 HS6 HR5 HB5 hlt5 ha0 HAE
  change Code.wp _ _ _ _ (W6.setCell ⟨g5, 0, none⟩ (B8 (lowF O 0)))
  generalize W6.setCell ⟨g5, 0, none⟩ (B8 (lowF O 0)) = W7 at *
  go_loop [4, 6, 14] (fun v _ i => ∃ k : Nat, k ≤ 8 ∧ i = I k ∧ v = I (hv (lowF O) k : Nat)) (fun _ _ i => 8 - (intOf i).toNat)
  case atStart => exact ⟨0, Nat.zero_le _, rfl, rfl⟩
  case round =>
    obtain ⟨k, hk, rfl, rfl⟩ := hrel
    by_cases hlt : k < 8
    · have hlt2 : (k : Int) < 8 := by omega
      have ck := HC.out k hlt
      have hb : hv (lowF O) k * 256 + (lowF O k).toNat < 9223372036854775808 := by
        have := hv_lt O k
        have e : hv (lowF O) (k + 1) = hv (lowF O) k * 256 + (lowF O k).toNat := rfl
        rw [← e]
        have hp : 256 ^ k ≤ 256 ^ 7 := Nat.pow_le_pow_right (by decide) (by omega)
        have e2 : (256 : Nat) ^ 7 = 72057594037927936 := rfl
        omega
      have HN : Hid ((((hv (lowF O) k) * 256 + (lowF O k).toNat : Nat) : Int) = ((hv (lowF O) (k + 1) : Nat) : Int)) := Lib.hid rfl
      have ho := or64 _ _ hb (lowF O k).toNat_lt
      have hw : IntKind.i64.wrap ((hv (lowF O) k : Int) * 256) = (hv (lowF O) k : Int) * 256 := IntWalk.i64_in _ (by omega)
      rw [HN.out] at ho
      have h8 : IntKind.i64.wrap (((lowF O k).toNat : Int)) = ((lowF O k).toNat : Int) := IntWalk.i64_in _ (by omega)
      clear hb
      go_wp2
      go_round
      case rel => exact ⟨k + 1, by omega, by go_num, rfl⟩
      case measure => simp [intOf]; omega
    · have hke : k = 8 := by omega
      have HE : Hid (((hv (lowF O) k % 1073741789 : Nat) : Int) = ((hashN tag xs : Nat) : Int)) := Lib.hid (by unfold hashN; rw [HO.out, hke])
      have h1 : (0 : Int) ≤ (hv (lowF O) k : Int) := by omega
      have hltb : decide ((k : Int) < 8) = false := decide_eq_false (by omega)
      clear hlt hk hke
      go_wp2
      go_ret
      refine ⟨?_, HB7.out⟩
      show Ending.returned (Value.int .i64 ((hv (lowF O) k : Int) % 1073741789)) = _
      rw [← HE.out]; rfl

end Go.Proofs.YtgacdmkhgllceaaGreatDoor
