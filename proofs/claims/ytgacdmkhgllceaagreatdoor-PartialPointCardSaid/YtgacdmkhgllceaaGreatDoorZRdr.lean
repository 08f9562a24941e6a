/- What an argument reads as, and what a call leaves of it. -/
import Derived.Test.YtgacdmkhgllceaaGreatDoorZLawI
import Derived.Test.YtgacdmkhgllceaaGreatDoorRows
import Derived.Deep.Slices
import Derived.SizedLaws
import Derived.WideKeyArgs
import Derived.OpenShut
import Derived.ChangeSame
import Derived.Below
import Derived.Stop.LaidErr
import Derived.Lib.LaidTab
import Derived.Deep.DeepHandedRow
namespace Go.Proofs.YtgacdmkhgllceaaGreatDoor
open Go.ChangeShapes Go.WideShapes Go.ChangeAt Go.RowKit Go.Shelf

section
variable {H : Type} {enc : TypeId × Value → H} {W : World}

theorem weightsAll_of {P : Program} {e : TypeId} {n : Nat} : ∀ {l : List (DataW H)} {d : DataW H}, d ∈ l → n ∈ d.weights P e → n ∈ DataW.weightsAll P e l
  | [], _, hd, _ => by simp at hd
  | a :: l, d, hd, hn => by
    simp only [DataW.weightsAll, List.mem_append]
    rcases List.mem_cons.1 hd with rfl | hd
    · exact Or.inl hn
    · exact Or.inr (weightsAll_of hd hn)

/-- A slice that has been read: what its elements are, each by its own reading. -/
theorem sl_of {α : Type} [Inhabited α] {E : World → Addr → α → Prop} {t e : TypeId} {fuel : Nat} {cs : List Value} {x : DataW H × List MemPlace}
    (ht : Tryz.prog.underlying t = some (.slice e)) (hc : Tryz.prog.cellsOf e = 1) (hby : 1 ≤ Tryz.prog.bytesOf e)
    (h : DataW.trod enc Tryz.prog W 0 (fun _ => true) true fuel t cs = some x) (hs : ∀ n ∈ x.1.weights Tryz.prog t, n ≤ reachBytes)
    (hE : ∀ (a : Addr) (v : Value) (n : Nat) (y : DataW H × List MemPlace), W.cell? a = some v → DataW.trod enc Tryz.prog W 0 (fun _ => true) true n e [v] = some y → (∀ k ∈ y.1.weights Tryz.prog e, k ≤ reachBytes) → ∃ z, E W a z) :
    ∃ v xs, cs = [v] ∧ Sl 1 E W v xs := by
  rcases Deep.open_slice1 ht hc h with ⟨rfl, rfl⟩ | ⟨a, len, cap, m, n, V, D, Pl, rfl, _, hl, hm, hmm, rfl, hx⟩
  · exact ⟨_, [], rfl, none, 0, rfl, ⟨Nat.le_refl _, fun _ => rfl⟩, Nat.zero_le _, fun i hi => absurd hi (Nat.not_lt_zero _)⟩
  rw [if_pos rfl] at hmm
  subst hmm
  have hw : (len + (m - len)) * Tryz.prog.bytesOf e ≤ reachBytes := hs _ (by simp [DataW.weights, ht])
  have hlen : len ≤ 140737488355328 := by
    have h1 : len * 1 ≤ (len + (m - len)) * Tryz.prog.bytesOf e := Nat.mul_le_mul (by omega) hby
    have h2 := reachBytes_lt
    omega
  have one : ∀ i, i < len → ∃ z, E W (a.add i) z := fun i hi => by
    obtain ⟨h1, h2⟩ := hx i (by omega)
    refine hE _ _ n _ h1 h2 (fun k hk => hs k ?_)
    simp only [DataW.weights, ht, List.mem_cons, List.mem_append]
    exact Or.inr (Or.inl (weightsAll_of (List.mem_map.2 ⟨i, List.mem_range.2 hi, rfl⟩) hk))
  obtain ⟨f, hf⟩ := Deep.choose_lt (α := α) (p := fun i z => E W (a.add i) z) one
  refine ⟨_, (List.range len).map f, rfl, some a, m, by simp, ⟨by simpa using hl, fun h => by cases h⟩, by simpa using hlen, fun i hi => ⟨a, rfl, ?_⟩⟩
  rw [Nat.mul_one]
  simpa using hf i (by simpa using hi)

theorem int_of (a : Addr) (v : Value) (n : Nat) (y : DataW H × List MemPlace) (hc : W.cell? a = some v) (h : DataW.trod enc Tryz.prog W 0 (fun _ => true) true n 3 [v] = some y) (_ : ∀ k ∈ y.1.weights Tryz.prog 3, k ≤ reachBytes) : ∃ z, IntE W a z := by
  obtain ⟨z, e, _, _⟩ := DataW.trod_int Tryz.underlying3 h
  injection e with e _
  subst e
  exact ⟨z, hc⟩
theorem u32_of (a : Addr) (v : Value) (n : Nat) (y : DataW H × List MemPlace) (hc : W.cell? a = some v) (h : DataW.trod enc Tryz.prog W 0 (fun _ => true) true n 42 [v] = some y) (_ : ∀ k ∈ y.1.weights Tryz.prog 42, k ≤ reachBytes) : ∃ z, U32E W a z := by
  obtain ⟨z, e, _, hw⟩ := DataW.trod_int Tryz.underlying42 h
  injection e with e _
  subst e
  simp only [Lit.wf, Bool.and_eq_true, decide_eq_true_eq] at hw
  have h1 : IntKind.u32.min = 0 := rfl
  have h2 : IntKind.u32.max = 4294967295 := rfl
  exact ⟨z, hc, by omega, by omega⟩
theorem byte_of (a : Addr) (v : Value) (n : Nat) (y : DataW H × List MemPlace) (hc : W.cell? a = some v) (h : DataW.trod enc Tryz.prog W 0 (fun _ => true) true n 5 [v] = some y) (_ : ∀ k ∈ y.1.weights Tryz.prog 5, k ≤ reachBytes) : ∃ z, ByteE W a z := by
  obtain ⟨z, e, _, hw⟩ := DataW.trod_int Tryz.underlying5 h
  injection e with e _
  subst e
  simp only [Lit.wf, Bool.and_eq_true, decide_eq_true_eq] at hw
  have h1 : IntKind.u8.min = 0 := rfl
  have h2 : IntKind.u8.max = 255 := rfl
  refine ⟨UInt8.ofNat z.toNat, ?_⟩
  have h3 : ((UInt8.ofNat z.toNat).toNat : Int) = z := by
    rw [UInt8.toNat_ofNat']
    omega
  unfold ByteE
  rw [hc]
  show some (Value.int .u8 z) = some (Value.int .u8 ((UInt8.ofNat z.toNat).toNat : Int))
  rw [h3]
theorem row_of (a : Addr) (v : Value) (n : Nat) (y : DataW H × List MemPlace) (hc : W.cell? a = some v) (h : DataW.trod enc Tryz.prog W 0 (fun _ => true) true n 23 [v] = some y) (hs : ∀ k ∈ y.1.weights Tryz.prog 23, k ≤ reachBytes) : ∃ z, RowE W a z := by
  obtain ⟨v', xs, e, hx⟩ := sl_of Tryz.underlying23 (by kernel_rfl) (Nat.le_of_ble_eq_true (by kernel_rfl)) h hs int_of
  injection e with e _
  subst e
  exact ⟨xs, _, hc, hx⟩

/-! ### Arguments -/
set_option maxRecDepth 100000 in
theorem arg_sl {α : Type} [Inhabited α] {E : World → Addr → α → Prop} {t e : TypeId} {v : Value} {d : DataW H} {p : List MemPlace} {r : Reach} {b0 : Nat}
    (ht : Tryz.prog.underlying t = some (.slice e)) (hc : Tryz.prog.cellsOf e = 1) (hby : 1 ≤ Tryz.prog.bytesOf e)
    (hv : Value.okWide Tryz.prog W r b0 t v) (h : DataW.Trod enc Tryz.prog W 0 (fun _ => true) true t v d p) (hs : ∀ n ∈ d.weights Tryz.prog t, n ≤ reachBytes)
    (hE : ∀ (a : Addr) (v : Value) (n : Nat) (y : DataW H × List MemPlace), W.cell? a = some v → DataW.trod enc Tryz.prog W 0 (fun _ => true) true n e [v] = some y → (∀ k ∈ y.1.weights Tryz.prog e, k ≤ reachBytes) → ∃ z, E W a z) :
    ∃ xs, Sl 1 E W v xs := by
  obtain ⟨A, n, c, rfl⟩ := okWide_slice ht hv
  obtain ⟨fuel, h⟩ := h
  obtain ⟨v', xs, e, hx⟩ := sl_of ht hc hby h hs hE
  simp [Value.cells] at e
  subst e
  exact ⟨xs, hx⟩

set_option maxRecDepth 100000 in
theorem arg_prog {v : Value} {d : DataW H} {p : List MemPlace} {r : Reach} {b0 : Nat}
    (hv : Value.okWide Tryz.prog W r b0 25 v) (h : DataW.Trod enc Tryz.prog W 0 (fun _ => true) true 25 v d p) (hs : ∀ n ∈ d.weights Tryz.prog 25, n ≤ reachBytes) :
    ∃ vr vo rows owners, v = .agg #[vr, vo] ∧ Rows2 W vr rows ∧ Ints W vo owners := by
  obtain ⟨cs, rfl, hsz⟩ := okWide_struct Tryz.underlying25 hv
  obtain ⟨fuel, h⟩ := h
  obtain ⟨y0, y1, n, hd, hl, h0, h1⟩ := trod_struct2 Tryz.underlying25 h
  injection hd with hd _
  subst hd
  rw [show Tryz.prog.cellsOf 25 = 2 from by kernel_rfl] at hsz
  obtain ⟨l⟩ := cs
  match l, hsz with
  | [vr, vo], _ =>
    have e0 : (([vr, vo] : List Value).drop 0).take (Tryz.prog.cellsOf 22) = [vr] := by rw [show Tryz.prog.cellsOf 22 = 1 from by kernel_rfl]; rfl
    have e1 : (([vr, vo] : List Value).drop 1).take (Tryz.prog.cellsOf 23) = [vo] := by rw [show Tryz.prog.cellsOf 23 = 1 from by kernel_rfl]; rfl
    have h0' : DataW.trod enc Tryz.prog W 0 (fun _ => true) true n 22 [vr] = some y0 := by rw [← e0]; exact h0
    have h1' : DataW.trod enc Tryz.prog W 0 (fun _ => true) true n 23 [vo] = some y1 := by rw [← e1]; exact h1
    have w0 : ∀ k ∈ y0.1.weights Tryz.prog 22, k ≤ reachBytes := fun k hk => hs k (by
      rw [DataW.weights, Tryz.underlying25]
      simp only [List.map, DataW.weightsEach, List.mem_append]
      exact Or.inl hk)
    have w1 : ∀ k ∈ y1.1.weights Tryz.prog 23, k ≤ reachBytes := fun k hk => hs k (by
      rw [DataW.weights, Tryz.underlying25]
      simp only [List.map, DataW.weightsEach, List.mem_append]
      exact Or.inr (Or.inl hk))
    obtain ⟨v0, rows, g0, hr⟩ := sl_of Tryz.underlying22 (by kernel_rfl) (Nat.le_of_ble_eq_true (by kernel_rfl)) h0' w0 row_of
    obtain ⟨v1, owners, g1, ho⟩ := sl_of Tryz.underlying23 (by kernel_rfl) (Nat.le_of_ble_eq_true (by kernel_rfl)) h1' w1 int_of
    injection g0 with g0 _
    injection g1 with g1 _
    subst g0 g1
    exact ⟨vr, vo, rows, owners, rfl, hr, ho⟩

/-! ### The package's tables -/
theorem kn_tab : (knL.map fun x => tn x) = [1116352408, 1899447441, 3049323471, 3921009573, 961987163, 1508970993, 2453635748, 2870763221, 3624381080, 310598401, 607225278, 1426881987, 1925078388, 2162078206, 2614888103, 3248222580, 3835390401, 4022224774, 264347078, 604807628, 770255983, 1249150122, 1555081692, 1996064986, 2554220882, 2821834349, 2952996808, 3210313671, 3336571891, 3584528711, 113926993, 338241895, 666307205, 773529912, 1294757372, 1396182291, 1695183700, 1986661051, 2177026350, 2456956037, 2730485921, 2820302411, 3259730800, 3345764771, 3516065817, 3600352804, 4094571909, 275423344, 430227734, 506948616, 659060556, 883997877, 958139571, 1322822218, 1537002063, 1747873779, 1955562222, 2024104815, 2227730452, 2361852424, 2428436474, 2756734187, 3204031479, 3329325298] := by decide +kernel
theorem k0_tab : (k0L.map fun x => tn x) = [1779033703, 3144134277, 1013904242, 2773480762, 1359893119, 2600822924, 528734635, 1541459225] := by decide +kernel
theorem lits_tab {H : Type} {k : IntKind} (zs : List Int) : (DataW.agg (zs.map fun z => DataW.lit (.int k z)) : DataW H) = Lib.tabData k zs := rfl
theorem gStart : Tryz.prog.globalNamed "signatory/digest.start" = some 0 := by kernel_rfl
theorem gNumbers : Tryz.prog.globalNamed "signatory/digest.numbers" = some 1 := by kernel_rfl
theorem tStart : (Tryz.prog.globals[0]?).map (·.type) = some 229 := by kernel_rfl
theorem tNumbers : (Tryz.prog.globals[1]?).map (·.type) = some 242 := by kernel_rfl
theorem startIs : (Rows.laid_signatory_digest_start : DataW Unit) = Lib.tabData .u32 (k0L.map fun x => tn x) := by rw [k0_tab]; rfl
theorem numbersIs : (Rows.laid_signatory_digest_numbers : DataW Unit) = Lib.tabData .u32 (knL.map fun x => tn x) := by rw [kn_tab]; rfl
theorem getD_map {l : List W32} {i : Nat} (h : i < l.length) : (l.map fun x => tn x).getD i 0 = tn (l.getD i 0) := by simp [List.getD, h]

/-- What a row lists is in place. -/
theorem glob_of (h : laidMetH Tryz.prog [("signatory/digest.start", Rows.laid_signatory_digest_start), ("signatory/digest.numbers", Rows.laid_signatory_digest_numbers)] W) : Glob W := by
  have h' : laidMet Tryz.prog [("signatory/digest.start", Rows.laid_signatory_digest_start), ("signatory/digest.numbers", Rows.laid_signatory_digest_numbers)] W := h
  rw [startIs, numbersIs] at h'
  have a := Lib.tabIs_of_head gStart tStart Tryz.underlying229 Tryz.underlying42 (by kernel_rfl) (by kernel_rfl) h'
  have b := Lib.tabIs_of_head gNumbers tNumbers Tryz.underlying242 Tryz.underlying42 (by kernel_rfl) (by kernel_rfl) (laidMet.tail h')
  refine ⟨fun t ht => ?_, fun t ht => ?_⟩
  · rw [b.cell gNumbers t (by simpa [knL] using ht), getD_map (by simpa [knL] using ht)]; rfl
  · rw [a.cell gStart t (by simpa [k0L] using ht), getD_map (by simpa [k0L] using ht)]; rfl

/-! ### What is left behind the call -/
/-- An argument reads again as it did. -/
theorem again {t : TypeId} (hr : Tryz.prog.readableRec t = true) (hrow : t < Tryz.prog.types.size) {W' : World} {v : Value} {d : DataW H} {ps before : List MemPlace}
    (h : DataW.Trod enc Tryz.prog W 0 (fun _ => true) true t v d ps) (hin : ∀ p ∈ ps, p ∈ before) (hlt : ∀ p ∈ before, p.block < W.heap.size) (hb : Below W.heap.size W W') {sp : Nat → Bool} (hs : ∀ p ∈ before, sp p.block = true) :
    DataW.Trod enc Tryz.prog W' 0 sp true t v d ps :=
  WideElems.Trod_stays (by kernel_rfl) hr hrow h (fun p hp => hb.same (hlt p (hin p hp))) (fun p hp => hs p (hin p hp))

/-- The post of a row out of 'Below'. -/
theorem post_below {P : Program} {f : Func} {s : ChangeSpec} {apart fresh handsOn again : Bool} {W' : World} {args : Array Value} {v : Value} {ds gs : List (DataW H)} {before pa pv : List MemPlace}
    (hW : DataW.Whole enc P f.params.toList s.vars apart W args.toList ds gs before)
    (hres : ∀ (b : Nat) (sp : Nat → Bool) (hd : Bool), DataW.TrodAll enc P W' b sp hd f.resultTypes.toList (v.resultList f.resultTypes.size) (s.fn H (ds ++ gs)).results [])
    (hargs : ∀ sp : Nat → Bool, (∀ p ∈ before, sp p.block = true) → DataW.TrodAll enc P W' 0 sp true f.params.toList args.toList (s.fn H (ds ++ gs)).args pa)
    (hvars : ∀ sp : Nat → Bool, (∀ p ∈ before, sp p.block = true) → DataW.TrodVars enc P W' sp s.vars (s.fn H (ds ++ gs)).vars pv)
    (hps : before = pa ++ pv) (hb : Below W.heap.size W W')
    (hok : ∀ (j : Nat) (t : TypeId) (r : Value), f.resultTypes[j]? = some t → (v.resultList f.resultTypes.size)[j]? = some r → Value.okWide P W' .any 0 t r) :
    s.post enc P f apart fresh handsOn again W args v W' := by
  have hlt : ∀ p ∈ before, p.block < W.heap.size := fun p hp => hW.lt p hp
  have hold : ∀ p ∈ before, (fun b => decide (b < W.heap.size)) p.block = true := fun p hp => by simpa using hlt p hp
  refine ⟨ds, gs, before, [], pa, pv, hW, hres _ _ _, hargs _ hold, hvars _ hold, World.keptBut_mono (fun p hp => ⟨hp, ?_⟩) (hb.frame (· ∈ before)), fun _ => ?_⟩
  · rw [hps, List.mem_append] at hp
    exact Or.inr hp
  · obtain ⟨_, _, _, _, _, hz, hn⟩ := hW
    refine ⟨hok, _, _, ([] ++ pa) ++ pv, ⟨[] ++ pa, pv, trodAll_append (hargs _ (fun _ _ => rfl)) (hres _ _ _), hvars _ (fun _ _ => rfl), rfl, ?_, ?_⟩, ?_⟩
    · intro b off hp
      have hin : MemPlace.cell b off ∈ before := by rw [hps]; simpa using hp
      rw [hb.frozen (hlt _ hin)]
      exact hz b off hin
    · intro ha
      have := hn ha
      rw [hps] at this
      simpa using this
    · intro p hp _
      rw [hps]
      simpa using hp
end
end Go.Proofs.YtgacdmkhgllceaaGreatDoor
