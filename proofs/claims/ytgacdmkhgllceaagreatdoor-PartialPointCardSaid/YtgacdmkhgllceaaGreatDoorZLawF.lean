/- The law's begun walked: keepers with a key. -/
import Derived.Test.YtgacdmkhgllceaaGreatDoorZLawB
import Derived.Test.YtgacdmkhgllceaaGreatDoorZRely2
import Derived.Test.YtgacdmkhgllceaaGreatDoorZLin7
namespace Go.Proofs.YtgacdmkhgllceaaGreatDoor
namespace Rely
open Go Go.RowKit
/-- One of three operations may come next. -/
theorem Tg.three {P : Program} {ops : Array Oper} {C : World → Prop} {Kn : Act → World → Prop} {n : Nat} (i k l : Nat) {rem : List Nat} (r1 r2 r3 : List Nat) {a : Act} {w : World} {o o' o'' : Oper} (hf : freeB ops rem = [i, k, l]) (he : rem.erase i = r1) (he' : rem.erase k = r2) (he'' : rem.erase l = r3) (ho : ops[i]? = some o) (ho' : ops[k]? = some o') (ho'' : ops[l]? = some o'')
    (h : wpList P ops (NQ fun a' w' => a'.defers = a.defers ∧ (n = 0 ∨ C w') ∧ Tg (semP P ops) C Kn n r1 a' w') [o] a w)
    (h' : wpList P ops (NQ fun a' w' => a'.defers = a.defers ∧ (n = 0 ∨ C w') ∧ Tg (semP P ops) C Kn n r2 a' w') [o'] a w)
    (h'' : wpList P ops (NQ fun a' w' => a'.defers = a.defers ∧ (n = 0 ∨ C w') ∧ Tg (semP P ops) C Kn n r3 a' w') [o''] a w) : Tg (semP P ops) C Kn (n + 1) rem a w := by
  intro j hj hfree
  have := freeB_mem hj hfree
  rw [hf] at this
  simp only [List.mem_cons, List.not_mem_nil, or_false] at this
  rcases this with rfl | rfl | rfl
  · exact Tg.go he ho h
  · exact Tg.go he' ho' h'
  · exact Tg.go he'' ho'' h''
end Rely
open Go.RowKit Go.Shelf
/-- A cell that holds no int is none of a list's. -/
theorem Ints.setv {w : World} {v : Value} {xs : List Int} {a : Addr} {u x : Value} (h : Ints w v xs) (hc : w.cell? a = some u) (hu : ∀ n, u ≠ I n) : Ints (w.setCell a x) v xs := by
  obtain ⟨A, c, h1, h2, h3, h4⟩ := h
  refine ⟨A, c, h1, h2, h3, fun i hi => ?_⟩
  obtain ⟨ad, e1, e2⟩ := h4 i hi
  exact ⟨ad, e1, (World.cell?_setCell_other _ _ _ _ (fun e => by subst e; rw [show w.cell? (ad.add (i * 1)) = some (I xs[i]) from e2] at hc; exact hu _ (Option.some.inj hc).symm)).trans e2⟩
theorem Shares.setv {w : World} {v : Value} {xs : List (Int × Int)} {a : Addr} {u x : Value} (h : Shares w v xs) (hc : w.cell? a = some u) (hu : ∀ n, u ≠ I n) : Shares (w.setCell a x) v xs := by
  obtain ⟨A, c, h1, h2, h3, h4⟩ := h
  refine ⟨A, c, h1, h2, h3, fun i hi => ?_⟩
  obtain ⟨ad, e1, e2, e3⟩ := h4 i hi
  exact ⟨ad, e1, (World.cell?_setCell_other _ _ _ _ (fun e => by subst e; rw [e2] at hc; exact hu _ (Option.some.inj hc).symm)).trans e2, (World.cell?_setCell_other _ _ _ _ (fun e => by subst e; rw [e3] at hc; exact hu _ (Option.some.inj hc).symm)).trans e3⟩

/-- Is a person drawn? -/
def bitB (b : Int) (i : Nat) : Bool := bits BinOp.and IntKind.u16 (b / 2 ^ i) 1 == 1
/-- The first people drawn. -/
def whoTo (b : Int) (i : Nat) : List Int := ((List.range i).filter (bitB b)).map fun j : Nat => (j : Int)
theorem whoTo_yes {b : Int} {i : Nat} (h : bitB b i = true) : whoTo b (i + 1) = whoTo b i ++ [(i : Int)] := by
  unfold whoTo; rw [List.range_succ, List.filter_append, List.filter_cons, h]; simp
theorem whoTo_no {b : Int} {i : Nat} (h : bitB b i = false) : whoTo b (i + 1) = whoTo b i := by
  unfold whoTo; rw [List.range_succ, List.filter_append, List.filter_cons, h]; simp
theorem whoTo_len (b : Int) (i : Nat) : (whoTo b i).length ≤ i := by
  unfold whoTo; rw [List.length_map]; exact Nat.le_trans (List.length_filter_le _ _) (by rw [List.length_range]; exact Nat.le_refl _)
theorem whoOk_of : ∀ (l : List Int) (last : Int), l.Pairwise (· < ·) → (∀ x ∈ l, 0 ≤ x ∧ x < 64 ∧ last < x) → whoOk l last = true
  | [], _, _, _ => rfl
  | n :: l, last, hp, h => by
    rw [List.pairwise_cons] at hp
    obtain ⟨h1, h2, h3⟩ := h n (by simp)
    simp only [whoOk, Bool.and_eq_true, decide_eq_true_eq]
    refine ⟨by unfold isP within; simp; omega, h3, whoOk_of l n hp.2 fun x hx => ?_⟩
    have := h x (by simp [hx])
    exact ⟨this.1, this.2.1, hp.1 x hx⟩
theorem whoTo_ok (b : Int) (i : Nat) (hi : i ≤ 16) : whoOk (whoTo b i) (-1) = true ∧ ∀ x ∈ whoTo b i, 0 ≤ x ∧ x < 16 := by
  have hm : ∀ x ∈ whoTo b i, 0 ≤ x ∧ x < 16 := by
    intro x hx
    unfold whoTo at hx
    obtain ⟨j, hj, rfl⟩ := List.mem_map.1 hx
    have := List.mem_range.1 (List.mem_filter.1 hj).1
    omega
  refine ⟨whoOk_of _ _ ?_ fun x hx => by have := hm x hx; omega, hm⟩
  unfold whoTo
  rw [List.pairwise_map]
  exact (List.Pairwise.filter _ List.pairwise_lt_range).imp (fun h => by omega)
/-- A table's cells, while it is laid. -/
abbrev tabC (ep : Int) (vr vo vc vs vw vp vn : Value) : Array Value := #[I ep, vr, vo, vc, vs, vw, vp, vn]
abbrev nilS : Value := .slice none 0 0

/-- All cells of a table's block, and that nothing changes where each is stored to itself. -/
theorem tab_facts {W : World} {g : Nat} {a0 a1 a2 a3 a4 a5 a6 a7 : Value} {T : TypeId} (h : W.heap[g]? = some (.cells #[a0, a1, a2, a3, a4, a5, a6, a7] T (0, 0))) :
    (W.cell? ⟨g, 0, none⟩ = some a0 ∧ W.cell? ⟨g, 1, none⟩ = some a1 ∧ W.cell? ⟨g, 2, none⟩ = some a2 ∧ W.cell? ⟨g, 3, none⟩ = some a3 ∧ W.cell? ⟨g, 4, none⟩ = some a4 ∧ W.cell? ⟨g, 5, none⟩ = some a5 ∧ W.cell? ⟨g, 6, none⟩ = some a6 ∧ W.cell? ⟨g, 7, none⟩ = some a7) ∧
    (∀ i, W.frozen? ⟨g, i, none⟩ = false) ∧
    (W.setCell ⟨g, 0, none⟩ a0 = W ∧ W.setCell ⟨g, 1, none⟩ a1 = W ∧ W.setCell ⟨g, 2, none⟩ a2 = W ∧ W.setCell ⟨g, 3, none⟩ a3 = W ∧ W.setCell ⟨g, 4, none⟩ a4 = W ∧ W.setCell ⟨g, 5, none⟩ a5 = W ∧ W.setCell ⟨g, 6, none⟩ a6 = W ∧ W.setCell ⟨g, 7, none⟩ a7 = W) := by
  have c : ∀ j v, (#[a0, a1, a2, a3, a4, a5, a6, a7] : Array Value)[j]? = some v → W.cell? ⟨g, j, none⟩ = some v := fun j v e => by rw [cell_of_row W g j _ _ (0, 0) h]; exact e
  exact ⟨⟨c 0 _ rfl, c 1 _ rfl, c 2 _ rfl, c 3 _ rfl, c 4 _ rfl, c 5 _ rfl, c 6 _ rfl, c 7 _ rfl⟩, fun i => by unfold World.frozen?; rw [h]; rfl,
    ⟨setCell_id (c 0 _ rfl), setCell_id (c 1 _ rfl), setCell_id (c 2 _ rfl), setCell_id (c 3 _ rfl), setCell_id (c 4 _ rfl), setCell_id (c 5 _ rfl), setCell_id (c 6 _ rfl), setCell_id (c 7 _ rfl)⟩⟩
/-- The keepers drawn, with their nonces. -/
def kpsOf (who ns : List Int) : List Kp := (List.range who.length).map fun i => ⟨who.getD i 0, who.getD i 0 % 7, ns.getD (2 * i) 0, ns.getD (2 * i + 1) 0⟩
/-- Are they enough? -/
def useB (rows : List (List Int)) (owners : List Int) (b : Int) : Bool := smallB rows owners && (accB rows owners (whoTo b 16) && decide (0 < (whoTo b 16).length))
/-- The polynomial's numbers. -/
def secOf (rows : List (List Int)) (secret : Int) (random : List Int) : List Int := md secret :: numsOf (cols rows - 1) random
/-- What the values of begun's dealing are. -/
def DlV (rows : List (List Int)) (secret : Int) (random : List Int) (j : Nat) (v : Value) (w : World) : Prop :=
  match j with
  | 8 => Ints w v (numsOf (cols rows - 1) random)
  | 9 => ∃ vl vc, v = .tuple #[vl, vc, I 0] ∧ Shares w vl (dealt rows (secOf rows secret random)) ∧ Ints w vc (commitsOf (secOf rows secret random))
  | _ => True
theorem DlV.below {rows : List (List Int)} {secret : Int} {random : List Int} {w w' : World} (hb : Below w.heap.size w w') : ∀ (j : Nat) (u : Value), DlV rows secret random j u w → DlV rows secret random j u w' := by
  intro j u h
  unfold DlV at *
  split at h
  · exact h.below hb
  · obtain ⟨vl, vc, e, h1, h2⟩ := h; exact ⟨vl, vc, e, h1.below hb, h2.below hb⟩
  · trivial
theorem sec_ok {rows : List (List Int)} {owners : List Int} (h : progErr rows owners = 0) (secret : Int) (random : List Int) : dealtErr rows owners (md secret) (numsOf (cols rows - 1) random) = 0 := by
  have hc := (cols_pos h).1
  have h1 : numsQ [md secret] = true := by
    have := md_bd secret
    unfold numsQ; simp [oddQ]; omega
  have h2 : numsQ (numsOf (cols rows - 1) random) = true := by
    unfold numsQ
    have : (numsOf (cols rows - 1) random).any oddQ = false := List.any_eq_false.2 fun x hx => by
      have := numsOf_bd _ _ x hx
      simp [oddQ]; omega
    rw [this]; rfl
  unfold dealtErr
  rw [if_neg (by rw [h]; decide), if_neg (by rw [h1]; decide), if_neg (by rw [h2]; decide), if_neg (by rw [numsOf_len]; simp; omega)]
theorem dealt_len (rows : List (List Int)) (s : List Int) : (dealt rows s).length = rows.length := by simp [dealt]
theorem sec_len {rows : List (List Int)} {secret : Int} {random : List Int} (h : 1 ≤ cols rows) : (secOf rows secret random).length = cols rows := by unfold secOf; rw [List.length_cons, numsOf_len]; omega
theorem dealt_at (rows : List (List Int)) (s : List Int) (k : Nat) (h : k < rows.length) : (dealt rows s)[k]? = some ((k : Int), dot rows[k] s) := by
  unfold dealt
  rw [List.getElem?_map, List.getElem?_zipIdx, List.getElem?_eq_getElem h]
  simp
theorem dealt_row (rows : List (List Int)) (s : List Int) (k : Nat) (h : k < (dealt rows s).length) : (dealt rows s)[k].1 = (k : Int) := by
  have h1 := dealt_at rows s k (by rwa [dealt_len] at h)
  rw [List.getElem?_eq_getElem h] at h1
  rw [Option.some.inj h1]
theorem kps_take {who ns : List Int} {k : Nat} (h : k < who.length) : ((kpsOf who ns).map Kp.pr).take (k + 1) = ((kpsOf who ns).map Kp.pr).take k ++ [Kp.pr ⟨who.getD k 0, who.getD k 0 % 7, ns.getD (2 * k) 0, ns.getD (2 * k + 1) 0⟩] := by
  rw [List.take_succ_eq_append_getElem (by simp [kpsOf, h])]
  simp [kpsOf]
theorem kps_len (who ns : List Int) : ((kpsOf who ns).map Kp.pr).length = who.length := by simp [kpsOf]
/-- What the letter of a pair is. -/
def PlV (w0 : World) (j : Nat) (v : Value) (w : World) : Prop :=
  match j with
  | 18 => ∃ g, v = .pointer (some ⟨g, 0, none⟩) ∧ w0.heap.size ≤ g ∧ w.heap[g]? = some (.cells #[I 0, I 0, I 0, I 0] 85 (0, 0))
  | _ => True
/-- What the nonces' letter is. -/
def NnV (m : Nat) (nonces : List Int) (j : Nat) (v : Value) (w : World) : Prop :=
  match j with
  | 9 => Ints w v (numsOf m nonces)
  | _ => True
/-- What begun returns. -/
def BegunR (w' : World) (vr vo : Value) (rows : List (List Int)) (owners : List Int) (secret b : Int) (random nonces : List Int) (e : Ending) : Prop :=
  (useB rows owners b = false ∧ ∃ A n c, e = .returned (.tuple #[.agg (tabC 0 nilS nilS nilS nilS (.slice A n c) nilS nilS), .bool false, .bool true])) ∨
  (useB rows owners b = true ∧ ∃ vc vs vw vp vn, e = .returned (.tuple #[.agg (tabC 0 vr vo vc vs vw vp vn), .bool true, .bool true]) ∧
    TabN w' vr vo vc vs vw vp vn rows owners (commitsOf (secOf rows secret random)) (dealt rows (secOf rows secret random)) (whoTo b 16) ((kpsOf (whoTo b 16) (numsOf (2 * (whoTo b 16).length) nonces)).map Kp.pr) (numsOf (2 * (whoTo b 16).length) nonces))
set_option maxRecDepth 1000000 in
theorem agg_tb (W : World) : (isAgg 46).run Tryz.prog W = .ok true W := by rfl
set_option maxRecDepth 1000000 in
theorem size_tb (W : World) : (sizeOf 46).run Tryz.prog W = .ok 8 W := by rfl
/-- A table that is a result and lies in a block of its own. -/
theorem results_tb {fn : Func} {t s u : Tmp} (h : fn.results = #[.cell t 46, .tmp s, .tmp u]) (tmps : Array Value) (W : World) (g : Nat) (cs : Array Value) (e f : Value) (hp : tmps.getD t undef = .pointer (some ⟨g, 0, none⟩)) (he : tmps.getD s undef = e) (hf : tmps.getD u undef = f)
    (hrow : W.heap[g]? = some (.cells cs 46 (0, 0))) (hs : cs.size = 8) : (results fn tmps).run Tryz.prog W = .ok (.tuple #[.agg cs, e, f]) W := by
  have hl : (loadCells ⟨g, 0, none⟩ 8).run Tryz.prog W = .ok cs W := by
    have h := run_loadCells_list (P := Tryz.prog) W ⟨g, 0, none⟩ cs.toList (fun j v hv => by
      have hadd : (⟨g, 0, none⟩ : Addr).add j = ⟨g, j, none⟩ := by unfold Addr.add; split <;> simp_all
      rw [hadd, cell_of_row W g j _ _ (0, 0) hrow]
      simpa using hv)
    simpa [hs] using h
  have hrun : (loadVar 46 ⟨g, 0, none⟩).run Tryz.prog W = .ok (.agg cs) W := by
    simp only [Go.loadVar, Sem.run_bind, agg_tb, size_tb, hl, Result.andThen_ok, if_true, Sem.run_pure]
  have hp' : tmps[t]?.getD undef = .pointer (some ⟨g, 0, none⟩) := by simpa using hp
  have he' : tmps[s]?.getD undef = e := by simpa using he
  have hf' : tmps[u]?.getD undef = f := by simpa using hf
  simp [results, h, hp', he', hf', asAddr, hrun]

set_option maxRecDepth 100000 in
set_option maxHeartbeats 4000000 in
theorem begun_law (vr vo vx vn : Value) (rows : List (List Int)) (owners : List Int) (secret some16 : Int) (random nonces : List Int) (w : World) (hr : Rows2 w vr rows) (ho : Ints w vo owners) (hx : U32s w vx random) (hn : U32s w vn nonces) (hs0 : 0 ≤ secret) (hs1 : secret < 4294967296) (_hm0 : 0 ≤ some16) (_hm1 : some16 < 65536) :
    Calls Tryz.prog 24 #[.agg #[vr, vo], .int .u32 secret, vx, vn, .int .u16 some16] w fun e w' => BegunR w' vr vo rows owners secret some16 random nonces e ∧ Below w.heap.size w w' := by
  obtain ⟨Ar, cr, rfl, _⟩ := hr.shape
  obtain ⟨Bo, co, rfl, _⟩ := ho.shape
  obtain ⟨W1, hW1⟩ : ∃ W1, w.alloc (.cells #[.slice Ar rows.length cr, .slice Bo owners.length co] 25) = W1 := ⟨_, rfl⟩
  have hb1 : Below w.heap.size w W1 := by rw [← hW1]; exact (Below.refl _ w).alloc (Nat.le_refl _) _
  have z1 : W1.heap.size = w.heap.size + 1 := by rw [← hW1]; simp
  have p0 : W1.cell? ⟨w.heap.size, 0, none⟩ = some (.slice Ar rows.length cr) := by rw [← hW1, World.cell?_alloc_new]; rfl
  have p1 : W1.cell? ⟨w.heap.size, 1, none⟩ = some (.slice Bo owners.length co) := by rw [← hW1, World.cell?_alloc_new]; rfl
  obtain ⟨W, hW⟩ : ∃ W, W1.alloc (.cells #[I 0, .slice none 0 0, .slice none 0 0, .slice none 0 0, .slice none 0 0, .slice none 0 0, .slice none 0 0, .slice none 0 0] 46) = W := ⟨_, rfl⟩
  have hba : Below w.heap.size w W := by rw [← hW]; exact hb1.alloc hb1.size _
  have hrow : W.heap[W1.heap.size]? = some (.cells #[I 0, .slice none 0 0, .slice none 0 0, .slice none 0 0, .slice none 0 0, .slice none 0 0, .slice none 0 0, .slice none 0 0] 46 (0, 0)) := by rw [← hW]; exact heap_alloc_new W1 _
  have q0 : W.cell? ⟨w.heap.size, 0, none⟩ = some (.slice Ar rows.length cr) := by rw [← hW]; exact keepA _ p0
  have q1 : W.cell? ⟨w.heap.size, 1, none⟩ = some (.slice Bo owners.length co) := by rw [← hW]; exact keepA _ p1
  have HB := Lib.hid hba
  have HROW := Lib.hid hrow
  have HR := Lib.hid hr
  have HO := Lib.hid ho
  have HX := Lib.hid hx
  have HN := Lib.hid hn
  have HZ1 := Lib.hid z1
  clear hr ho hx hn hba hrow hb1 p0 p1 z1
  go_enter Tryz.func24, Tryz.ntmps24
  go_wp2_with fail
  refine (small_any _ _ rows owners W (HR.out.below HB.out) (HO.out.below HB.out)).mono ?_
  rintro e w1 ⟨rfl, hb1⟩
  have HB1 : Hid (Below w.heap.size w w1) := Lib.hid (HB.out.trans (hb1.mono HB.out.size))
  have HROW1 := Lib.hid ((hb1.block _ (Array.getElem?_eq_some_iff.1 HROW.out).1).trans HROW.out)
  replace q0 := keep hb1 q0
  replace q1 := keep hb1 q1
  clear hb1 hW hW1
  cases hsm : smallB rows owners with
  | false =>
    have HU : Hid (useB rows owners some16 = false) := Lib.hid (by unfold useB; rw [hsm]; rfl)
    have c0 : w1.cell? ⟨W1.heap.size, 0, none⟩ = some (I 0) := by rw [cell_of_row w1 _ 0 _ _ (0, 0) HROW1.out]; rfl
    have c1 : w1.cell? ⟨W1.heap.size, 1, none⟩ = some nilS := by rw [cell_of_row w1 _ 1 _ _ (0, 0) HROW1.out]; rfl
    have c2 : w1.cell? ⟨W1.heap.size, 2, none⟩ = some nilS := by rw [cell_of_row w1 _ 2 _ _ (0, 0) HROW1.out]; rfl
    have c3 : w1.cell? ⟨W1.heap.size, 3, none⟩ = some nilS := by rw [cell_of_row w1 _ 3 _ _ (0, 0) HROW1.out]; rfl
    have c4 : w1.cell? ⟨W1.heap.size, 4, none⟩ = some nilS := by rw [cell_of_row w1 _ 4 _ _ (0, 0) HROW1.out]; rfl
    have c5 : w1.cell? ⟨W1.heap.size, 5, none⟩ = some nilS := by rw [cell_of_row w1 _ 5 _ _ (0, 0) HROW1.out]; rfl
    have c6 : w1.cell? ⟨W1.heap.size, 6, none⟩ = some nilS := by rw [cell_of_row w1 _ 6 _ _ (0, 0) HROW1.out]; rfl
    have c7 : w1.cell? ⟨W1.heap.size, 7, none⟩ = some nilS := by rw [cell_of_row w1 _ 7 _ _ (0, 0) HROW1.out]; rfl
    have f0 : ∀ i, w1.frozen? ⟨W1.heap.size, i, none⟩ = false := fun i => by unfold World.frozen?; rw [HROW1.out]; rfl
    have f00 := f0 0
    have f01 := f0 1
    have f02 := f0 2
    have f03 := f0 3
    have f04 := f0 4
    have f05 := f0 5
    have f06 := f0 6
    have f07 := f0 7
    have j0 := setCell_id c0
    have j1 := setCell_id c1
    have j2 := setCell_id c2
    have j3 := setCell_id c3
    have j4 := setCell_id c4
    have j5 := setCell_id c5
    have j6 := setCell_id c6
    have j7 := setCell_id c7
    clear f0 hsm
    go_wp2
    refine bodyPost_ret (results_tb rfl _ _ W1.heap.size (tabC 0 nilS nilS nilS nilS nilS nilS nilS) (.bool false) (.bool true) rfl rfl rfl HROW1.out rfl) rfl ?_
    exact ⟨.inl ⟨HU.out, _, _, _, rfl⟩, HB1.out⟩
  | true =>
    have HSM := Lib.hid hsm
    clear hsm
    go_wp2
    go_loopw [13, 30] (fun _ v30 wr => ∃ i : Nat, i ≤ 16 ∧ v30 = I i ∧ Hid (Below w.heap.size w wr) ∧ Hid (∃ vw, wr.heap[W1.heap.size]? = some (.cells (tabC 0 nilS nilS nilS nilS vw nilS nilS) 46 (0, 0)) ∧ OwnOf 3 1 encI wr (W1.heap.size + 1) vw (whoTo some16 i)) ∧ Hid (wr.cell? ⟨w.heap.size, 0, none⟩ = some (.slice Ar rows.length cr) ∧ wr.cell? ⟨w.heap.size, 1, none⟩ = some (.slice Bo owners.length co))) (fun _ v30 _ => 16 - (intOf v30).toNat)
    case atStart => exact ⟨0, Nat.zero_le _, rfl, HB1, Lib.hid ⟨nilS, HROW1.out, OwnOf.nil _ _ _ _ _⟩, Lib.hid ⟨q0, q1⟩⟩
    case round =>
      obtain ⟨i, hi, rfl, hbw, htb, hpc⟩ := hrel
      obtain ⟨vw, hrow, hown⟩ := htb.out
      obtain ⟨Aw, cw, rfl⟩ := hown.shape
      have t5 : wr.cell? ⟨W1.heap.size, 5, none⟩ = some (.slice Aw (whoTo some16 i).length cw) := by rw [cell_of_row wr _ 5 _ _ (0, 0) hrow]; rfl
      have f5 : wr.frozen? ⟨W1.heap.size, 5, none⟩ = false := by unfold World.frozen?; rw [hrow]; rfl
      have HROW := Lib.hid hrow
      have HOWN := Lib.hid hown
      have HTL := Lib.hid (whoTo_len some16 i)
      clear hrow hown htb
      by_cases hlt : i < 16
      · cases hbit : (bits BinOp.and IntKind.u16 (some16 / 2 ^ i) 1 == 1) with
        | false =>
          have HNX := Lib.hid (whoTo_no (b := some16) (i := i) hbit)
          go_wp2
          go_roundw
          case rel => exact ⟨i + 1, by omega, by go_num, hbw, Lib.hid ⟨_, HROW.out, by rw [HNX.out]; exact HOWN.out⟩, hpc⟩
          case measure => simp [intOf]; omega
        | true =>
          have HNX := Lib.hid (whoTo_yes (b := some16) (i := i) hbit)
          have hlen : Hid (((whoTo some16 i).length + 1) * 8 ≤ 140737488355328) := Lib.hid (by have := HTL.out; omega)
          have hbas : W1.heap.size + 1 ≤ wr.heap.size := by have := (Array.getElem?_eq_some_iff.1 HROW.out).1; omega
          have HBAS := Lib.hid hbas
          clear hbas
          go_wp2_with (at_builtin; refine app_one (w0 := wr) (W1.heap.size + 1) rfl _ _ 23 3 (I 0) 1 8 rfl Tryz.underlying23 info_int rfl (by decide) (by decide) encI _ _ (i : Int) (by rfl) #[I i] rfl rfl (by intro u hu; simp at hu; subst hu; rfl) _ (by rfl) rfl HOWN.out (Below.refl _ _) HBAS.out hlen.out ?_; intro v1 w5 ho5 hb5 hk5 hs5 _; obtain ⟨A5, c5, e5⟩ := ho5.shape; rw [List.length_append, List.length_singleton] at e5; subst e5; have hr5 := (hb5.block W1.heap.size (Nat.lt_succ_self _)).trans HROW.out; have HR5 := Lib.hid hr5; have d5 : w5.cell? ⟨W1.heap.size, 5, none⟩ = some (.slice Aw (whoTo some16 i).length cw) := (by rw [cell_of_row w5 _ 5 _ _ (0, 0) hr5]; rfl); have g5 : w5.frozen? ⟨W1.heap.size, 5, none⟩ = false := (by unfold World.frozen?; rw [hr5]; rfl); have HO5 := Lib.hid ho5; have HB5 := Lib.hid hb5; have HS5 := Lib.hid hs5; have HK5 := Lib.hid hk5; clear hr5 ho5 hb5 hs5 hk5 t5 f5)
          have HOW6 : Hid (OwnOf 3 1 encI (w5.setCell ⟨W1.heap.size, 5, none⟩ (.slice A5 ((whoTo some16 i).length + 1) c5)) (W1.heap.size + 1) (.slice A5 ((whoTo some16 i).length + 1) c5) (whoTo some16 (i + 1))) := Lib.hid (by
            rw [HNX.out]
            exact HO5.out.kept fun k e => Deep.blk_setCell_other w5 ⟨W1.heap.size, 5, none⟩ _ k (by have := (HO5.out.base_le k e).1; dsimp only; omega))
          have HB6 : Hid (Below w.heap.size w (w5.setCell ⟨W1.heap.size, 5, none⟩ (.slice A5 ((whoTo some16 i).length + 1) c5))) := Lib.hid ((hbw.out.trans (HB5.out.mono (by have := HZ1.out; omega))).setCell (by have := HZ1.out; dsimp only; omega) _)
          have HP6 : Hid ((w5.setCell ⟨W1.heap.size, 5, none⟩ (.slice A5 ((whoTo some16 i).length + 1) c5)).cell? ⟨w.heap.size, 0, none⟩ = some (.slice Ar rows.length cr) ∧ (w5.setCell ⟨W1.heap.size, 5, none⟩ (.slice A5 ((whoTo some16 i).length + 1) c5)).cell? ⟨w.heap.size, 1, none⟩ = some (.slice Bo owners.length co)) := Lib.hid
            ⟨set_far (by have := HZ1.out; dsimp only; omega) ((HB5.out.cell (p := ⟨w.heap.size, 0, none⟩) (by have := HZ1.out; dsimp only; omega)).trans hpc.out.1), set_far (by have := HZ1.out; dsimp only; omega) ((HB5.out.cell (p := ⟨w.heap.size, 1, none⟩) (by have := HZ1.out; dsimp only; omega)).trans hpc.out.2)⟩
          go_roundw
          case rel => exact ⟨i + 1, by omega, by go_num, HB6, Lib.hid ⟨_, row_set HR5.out 5 _, HOW6.out⟩, HP6⟩
          case measure => simp [intOf]; omega
      · obtain rfl : i = 16 := by omega
        obtain ⟨w2, hw2⟩ : ∃ w2, w2 = wr := ⟨_, rfl⟩
        subst hw2
        obtain ⟨who, hwho⟩ : ∃ who, whoTo some16 16 = who := ⟨_, rfl⟩
        have HOK := Lib.hid (whoTo_ok some16 16 (Nat.le_refl _))
        rw [hwho] at HOWN HTL t5 HROW HOK
        have HWHO := Lib.hid hwho
        have HINT : Hid (Ints w2 (.slice Aw who.length cw) who) := Lib.hid (HOWN.out.ints (by have := HTL.out; omega))
        have HSM2 : Hid (rows.length ≤ 16 ∧ progErr rows owners = 0 ∧ cols rows ≤ 16) := Lib.hid (by
          have h := HSM.out
          unfold smallB at h
          simp only [Bool.and_eq_true, decide_eq_true_eq] at h
          exact ⟨h.1, h.2.1, h.2.2⟩)
        have c0 := hpc.out.1
        have c1 := hpc.out.2
        clear hwho hlt hi
        go_wp2_with fail
        refine (accepts_any _ _ _ rows owners who w2 (HR.out.below hbw.out) (HO.out.below hbw.out) HINT.out HSM2.out.2.1 HOK.out.1).mono ?_
        rintro e w3 ⟨vy, rfl, _, _, hb3⟩
        have HB3 : Hid (Below w.heap.size w w3) := Lib.hid (hbw.out.trans (hb3.mono hbw.out.size))
        have HROW3 := Lib.hid ((hb3.block _ (Array.getElem?_eq_some_iff.1 HROW.out).1).trans HROW.out)
        have HOWN3 := Lib.hid (HOWN.out.below hb3)
        have HP3 : Hid (w3.cell? ⟨w.heap.size, 0, none⟩ = some (.slice Ar rows.length cr) ∧ w3.cell? ⟨w.heap.size, 1, none⟩ = some (.slice Bo owners.length co)) := Lib.hid ⟨keep hb3 c0, keep hb3 c1⟩
        clear hb3 t5 f5 c0 c1 hpc
        obtain ⟨⟨c0, c1, c2, c3, c4, c5, c6, c7⟩, f0, j0, j1, j2, j3, j4, j5, j6, j7⟩ := tab_facts HROW3.out
        have f00 := f0 0
        have f01 := f0 1
        have f02 := f0 2
        have f03 := f0 3
        have f04 := f0 4
        have f05 := f0 5
        have f06 := f0 6
        have f07 := f0 7
        clear f0
        cases hacc : accB rows owners who with
        | false =>
          have HU : Hid (useB rows owners some16 = false) := Lib.hid (by unfold useB; rw [HWHO.out, hacc]; simp)
          clear hacc
          go_wp2
          refine bodyPost_ret (results_tb rfl _ _ W1.heap.size (tabC 0 nilS nilS nilS nilS (.slice Aw who.length cw) nilS nilS) (.bool false) (.bool true) rfl rfl rfl HROW3.out rfl) rfl ?_
          exact ⟨.inl ⟨HU.out, _, _, _, rfl⟩, HB3.out⟩
        | true =>
          by_cases hwz : who.length = 0
          · have HU : Hid (useB rows owners some16 = false) := Lib.hid (by unfold useB; rw [HWHO.out, hwz]; simp)
            have g0 : ((who.length : Int) == 0) = true := beq_iff_eq.2 (by omega)
            clear hwz hacc
            go_wp2
            refine bodyPost_ret (results_tb rfl _ _ W1.heap.size (tabC 0 nilS nilS nilS nilS (.slice Aw who.length cw) nilS nilS) (.bool false) (.bool true) rfl rfl rfl HROW3.out rfl) rfl ?_
            exact ⟨.inl ⟨HU.out, _, _, _, rfl⟩, HB3.out⟩
          · have HU : Hid (useB rows owners some16 = true) := Lib.hid (by unfold useB; rw [HWHO.out, HSM.out, hacc]; simp; omega)
            have g0 : ((who.length : Int) == 0) = false := beq_eq_false_iff_ne.2 (by omega)
            have HWP : Hid (0 < who.length) := Lib.hid (by omega)
            clear hwz hacc
            go_upto_region 12 with (fail)
            have HW3 : Hid (∃ w9, w9 = w3) := Lib.hid ⟨_, rfl⟩
            have c9 := HP3.out.1
            have c8 := HP3.out.2
            have hcp := (cols_pos HSM2.out.2.1).1
            have hcq := HSM2.out.2.2
            have hcs : ((cols rows : Nat) : Int) - 1 = ((cols rows - 1 : Nat) : Int) := by omega
            go_cut [17, 18, 19] from 68 to 81 (fun v17 v18 v19 wx => v19 = I 0 ∧ Hid (Shares wx v17 (dealt rows (secOf rows secret random)) ∧ Ints wx v18 (commitsOf (secOf rows secret random)) ∧ Below w3.heap.size w3 wx))
            case first =>
              refine Rely.regionB2 _ _ (by kernel_rfl) [0,1,2,3,4,5,6,7] [8,9] [10,11,12,13,14,15,16] (DlV rows secret random) (fun _ => True) (by kernel_rfl) (fun _ _ => trivial) ?_
              (refine Rely.Fx.load ?rlcz rfl (by kernel_rfl) rfl (Rely.Stab.refl _ _ _) (fun _ hb => ?rlhz) ?rlkz; (case rlhz => (have hr0 := (hb.cell (cell_old c9)).trans c9; have hr1 := (hb.cell (cell_old c8)).trans c8; go_simp; try rfl)); go_simp)
              (refine Rely.Fx.run ?rlc1 rfl rfl (fun _ _ => ?rlh1) ?rlk1; (case rlh1 => (go_simp; try rfl)); go_simp)
              (refine Rely.Fx.run ?rlc2 rfl rfl (fun _ _ => ?rlh2) ?rlk2; (case rlh2 => (go_simp; try rfl)); go_simp)
              (refine Rely.Fx.run ?rlc3 rfl rfl (fun _ _ => ?rlh3) ?rlk3; (case rlh3 => (go_simp; try rfl)); go_simp)
              (refine Rely.Fx.load ?rlcy rfl (by kernel_rfl) rfl (Rely.Stab.refl _ _ _) (fun _ hb => ?rlhy) ?rlky; (case rlhy => (have hr0 := (hb.cell (cell_old c9)).trans c9; have hr1 := (hb.cell (cell_old c8)).trans c8; go_simp; try rfl)); go_simp)
              (refine Rely.Fx.call (o := ?rlo4) (I (cols rows)) 74 ?rlho4 ?rlhd4 (by simp) (by kernel_rfl) ?rlh4 ?rlk4; (case rlho4 => (simp only [List.getElem?_toArray, List.getElem?_cons_succ, List.getElem?_cons_zero]; rfl)); (case rlhd4 => rfl))
              · intro w' hb
                go_wp2_with fail
                refine (refColumns_any _ _ rows _ ((HR.out.below HB3.out).below hb)).mono ?_
                rintro r w5 ⟨rfl, hb5⟩
                go_wp2
                exact ⟨_, rfl, rfl, hb.trans (hb5.mono hb.size), fun j _ _ u hu => DlV.below hb5 j u hu⟩
              go_simp
              (refine Rely.Fx.run ?rlc5 rfl rfl (fun _ _ => ?rlh5) ?rlk5; (case rlh5 => (go_simp; try rfl)); go_simp)
              (refine Rely.Fx.run ?rlc6 rfl rfl (fun _ _ => ?rlh6) ?rlk6; (case rlh6 => (go_simp; try rfl)); go_simp)
              refine Rely.Fx.done ?_
              (refine Rely.Lt.step (o := ?rlo7) 77 ?rlho7 ?rlhd7 (by simp) ?rlh7 ?rlk7; (case rlho7 => (simp only [List.getElem?_toArray, List.getElem?_cons_succ, List.getElem?_cons_zero]; rfl)); (case rlhd7 => rfl))
              · intro w' hb hp
                clear hp
                go_wp2_with fail
                refine (numbers_law (cols rows - 1) vx random w' (HX.out.below (HB3.out.trans (hb.mono HB3.out.size))) (by omega)).mono ?_
                rintro r w5 ⟨u, rfl, hu, hb5⟩
                have HU5 := Lib.hid hu
                have HB5 := Lib.hid hb5
                clear hu hb5
                go_wp2
                exact ⟨_, rfl, HU5.out, hb.trans (HB5.out.mono hb.size), fun j _ _ u hu => DlV.below HB5.out j u hu⟩
              intro v8
              go_simp
              (refine Rely.Lt.step (o := ?rlo8) 78 ?rlho8 ?rlhd8 (by simp) ?rlh8 ?rlk8; (case rlho8 => (simp only [List.getElem?_toArray, List.getElem?_cons_succ, List.getElem?_cons_zero]; rfl)); (case rlhd8 => rfl))
              · intro w' hb hp
                have hi : DlV rows secret random 8 v8 w' := hp.get 8 v8 (by simp) (by kernel_rfl)
                clear hp
                go_wp2_with fail
                refine (deal_any _ _ v8 rows owners (md secret) (numsOf (cols rows - 1) random) w' ((HR.out.below HB3.out).below hb) ((HO.out.below HB3.out).below hb) hi (sec_ok HSM2.out.2.1 secret random)).mono ?_
                rintro r w5 ⟨vl, vc, rfl, hl, hc, hb5⟩
                have HL5 := Lib.hid hl
                have HC5 := Lib.hid hc
                have HB5 := Lib.hid hb5
                clear hl hc hb5 hi
                go_wp2
                exact ⟨_, rfl, ⟨vl, vc, rfl, HL5.out, HC5.out⟩, hb.trans (HB5.out.mono hb.size), fun j _ _ u hu => DlV.below HB5.out j u hu⟩
              intro v9
              go_simp
              refine Rely.Lt.done ?_
              intro w8 hb hp
              obtain ⟨vl, vc, rfl, hl, hc⟩ : DlV rows secret random 9 v9 w8 := hp.one
              have HCUT := Lib.hid (And.intro hl (And.intro hc hb))
              clear hb hp hl hc c9 c8
              (refine Rely.Tg.one (o := ?rlo9) 10 [11,12,13,14,15,16] (by kernel_rfl) ?rle9 ?rlho9 ?rlk9; (case rle9 => rfl); (case rlho9 => (simp only [List.getElem?_toArray, List.getElem?_cons_succ, List.getElem?_cons_zero]; rfl)))
              go_wp2
              refine ⟨rfl, ?_⟩
              (refine Rely.Tg.three (o := ?rlo10) (o' := ?rlp10) (o'' := ?rlq10) 11 12 13 [12,13,14,15,16] [11,13,14,15,16] [11,12,14,15,16] (by kernel_rfl) ?rle10 ?rlf10 ?rlg10 ?rlho10 ?rlhp10 ?rlhq10 ?rlk10 ?rlm10 ?rln10; (case rle10 => rfl); (case rlf10 => rfl); (case rlg10 => rfl); (case rlho10 => (simp only [List.getElem?_toArray, List.getElem?_cons_succ, List.getElem?_cons_zero]; rfl)); (case rlhp10 => (simp only [List.getElem?_toArray, List.getElem?_cons_succ, List.getElem?_cons_zero]; rfl)); (case rlhq10 => (simp only [List.getElem?_toArray, List.getElem?_cons_succ, List.getElem?_cons_zero]; rfl)))
              · go_wp2
                refine ⟨rfl, ?_⟩
                (refine Rely.Tg.three (o := ?rlo11) (o' := ?rlp11) (o'' := ?rlq11) 12 13 14 [13,14,15,16] [12,14,15,16] [12,13,15,16] (by kernel_rfl) ?rle11 ?rlf11 ?rlg11 ?rlho11 ?rlhp11 ?rlhq11 ?rlk11 ?rlm11 ?rln11; (case rle11 => rfl); (case rlf11 => rfl); (case rlg11 => rfl); (case rlho11 => (simp only [List.getElem?_toArray, List.getElem?_cons_succ, List.getElem?_cons_zero]; rfl)); (case rlhp11 => (simp only [List.getElem?_toArray, List.getElem?_cons_succ, List.getElem?_cons_zero]; rfl)); (case rlhq11 => (simp only [List.getElem?_toArray, List.getElem?_cons_succ, List.getElem?_cons_zero]; rfl)))
                · go_wp2
                  refine ⟨rfl, ?_⟩
                  (refine Rely.Tg.two (o := ?rlo12) (o' := ?rlp12) 13 14 [14,15,16] [13,15,16] (by kernel_rfl) ?rle12 ?rlf12 ?rlho12 ?rlhp12 ?rlk12 ?rlm12; (case rle12 => rfl); (case rlf12 => rfl); (case rlho12 => (simp only [List.getElem?_toArray, List.getElem?_cons_succ, List.getElem?_cons_zero]; rfl)); (case rlhp12 => (simp only [List.getElem?_toArray, List.getElem?_cons_succ, List.getElem?_cons_zero]; rfl)))
                  · go_wp2
                    refine ⟨rfl, ?_⟩
                    (refine Rely.Tg.one (o := ?rlo13) 14 [15,16] (by kernel_rfl) ?rle13 ?rlho13 ?rlk13; (case rle13 => rfl); (case rlho13 => (simp only [List.getElem?_toArray, List.getElem?_cons_succ, List.getElem?_cons_zero]; rfl)))
                    go_wp2
                    refine ⟨rfl, ?_⟩
                    (refine Rely.Tg.one (o := ?rlo14) 15 [16] (by kernel_rfl) ?rle14 ?rlho14 ?rlk14; (case rle14 => rfl); (case rlho14 => (simp only [List.getElem?_toArray, List.getElem?_cons_succ, List.getElem?_cons_zero]; rfl)))
                    go_wp2
                    refine ⟨rfl, ?_⟩
                    (refine Rely.Tg.one (o := ?rlo15) 16 [] (by kernel_rfl) ?rle15 ?rlho15 ?rlk15; (case rle15 => rfl); (case rlho15 => (simp only [List.getElem?_toArray, List.getElem?_cons_succ, List.getElem?_cons_zero]; rfl)))
                    go_wp2
                    refine ⟨rfl, ?_⟩
                    refine Rely.Tg.done ?_
                    go_wp2
                    go_meet
                    exact ⟨rfl, HCUT⟩
                  · go_wp2
                    refine ⟨rfl, ?_⟩
                    (refine Rely.Tg.two (o := ?rlo16) (o' := ?rlp16) 13 15 [15,16] [13,16] (by kernel_rfl) ?rle16 ?rlf16 ?rlho16 ?rlhp16 ?rlk16 ?rlm16; (case rle16 => rfl); (case rlf16 => rfl); (case rlho16 => (simp only [List.getElem?_toArray, List.getElem?_cons_succ, List.getElem?_cons_zero]; rfl)); (case rlhp16 => (simp only [List.getElem?_toArray, List.getElem?_cons_succ, List.getElem?_cons_zero]; rfl)))
                    · go_wp2
                      refine ⟨rfl, ?_⟩
                      (refine Rely.Tg.one (o := ?rlo17) 15 [16] (by kernel_rfl) ?rle17 ?rlho17 ?rlk17; (case rle17 => rfl); (case rlho17 => (simp only [List.getElem?_toArray, List.getElem?_cons_succ, List.getElem?_cons_zero]; rfl)))
                      go_wp2
                      refine ⟨rfl, ?_⟩
                      (refine Rely.Tg.one (o := ?rlo18) 16 [] (by kernel_rfl) ?rle18 ?rlho18 ?rlk18; (case rle18 => rfl); (case rlho18 => (simp only [List.getElem?_toArray, List.getElem?_cons_succ, List.getElem?_cons_zero]; rfl)))
                      go_wp2
                      refine ⟨rfl, ?_⟩
                      refine Rely.Tg.done ?_
                      go_wp2
                      go_meet
                      exact ⟨rfl, HCUT⟩
                    · go_wp2
                      refine ⟨rfl, ?_⟩
                      (refine Rely.Tg.one (o := ?rlo19) 13 [16] (by kernel_rfl) ?rle19 ?rlho19 ?rlk19; (case rle19 => rfl); (case rlho19 => (simp only [List.getElem?_toArray, List.getElem?_cons_succ, List.getElem?_cons_zero]; rfl)))
                      go_wp2
                      refine ⟨rfl, ?_⟩
                      (refine Rely.Tg.one (o := ?rlo20) 16 [] (by kernel_rfl) ?rle20 ?rlho20 ?rlk20; (case rle20 => rfl); (case rlho20 => (simp only [List.getElem?_toArray, List.getElem?_cons_succ, List.getElem?_cons_zero]; rfl)))
                      go_wp2
                      refine ⟨rfl, ?_⟩
                      refine Rely.Tg.done ?_
                      go_wp2
                      go_meet
                      exact ⟨rfl, HCUT⟩
                · go_wp2
                  refine ⟨rfl, ?_⟩
                  (refine Rely.Tg.two (o := ?rlo21) (o' := ?rlp21) 12 14 [14,15,16] [12,15,16] (by kernel_rfl) ?rle21 ?rlf21 ?rlho21 ?rlhp21 ?rlk21 ?rlm21; (case rle21 => rfl); (case rlf21 => rfl); (case rlho21 => (simp only [List.getElem?_toArray, List.getElem?_cons_succ, List.getElem?_cons_zero]; rfl)); (case rlhp21 => (simp only [List.getElem?_toArray, List.getElem?_cons_succ, List.getElem?_cons_zero]; rfl)))
                  · go_wp2
                    refine ⟨rfl, ?_⟩
                    (refine Rely.Tg.one (o := ?rlo22) 14 [15,16] (by kernel_rfl) ?rle22 ?rlho22 ?rlk22; (case rle22 => rfl); (case rlho22 => (simp only [List.getElem?_toArray, List.getElem?_cons_succ, List.getElem?_cons_zero]; rfl)))
                    go_wp2
                    refine ⟨rfl, ?_⟩
                    (refine Rely.Tg.one (o := ?rlo23) 15 [16] (by kernel_rfl) ?rle23 ?rlho23 ?rlk23; (case rle23 => rfl); (case rlho23 => (simp only [List.getElem?_toArray, List.getElem?_cons_succ, List.getElem?_cons_zero]; rfl)))
                    go_wp2
                    refine ⟨rfl, ?_⟩
                    (refine Rely.Tg.one (o := ?rlo24) 16 [] (by kernel_rfl) ?rle24 ?rlho24 ?rlk24; (case rle24 => rfl); (case rlho24 => (simp only [List.getElem?_toArray, List.getElem?_cons_succ, List.getElem?_cons_zero]; rfl)))
                    go_wp2
                    refine ⟨rfl, ?_⟩
                    refine Rely.Tg.done ?_
                    go_wp2
                    go_meet
                    exact ⟨rfl, HCUT⟩
                  · go_wp2
                    refine ⟨rfl, ?_⟩
                    (refine Rely.Tg.one (o := ?rlo25) 12 [15,16] (by kernel_rfl) ?rle25 ?rlho25 ?rlk25; (case rle25 => rfl); (case rlho25 => (simp only [List.getElem?_toArray, List.getElem?_cons_succ, List.getElem?_cons_zero]; rfl)))
                    go_wp2
                    refine ⟨rfl, ?_⟩
                    (refine Rely.Tg.one (o := ?rlo26) 15 [16] (by kernel_rfl) ?rle26 ?rlho26 ?rlk26; (case rle26 => rfl); (case rlho26 => (simp only [List.getElem?_toArray, List.getElem?_cons_succ, List.getElem?_cons_zero]; rfl)))
                    go_wp2
                    refine ⟨rfl, ?_⟩
                    (refine Rely.Tg.one (o := ?rlo27) 16 [] (by kernel_rfl) ?rle27 ?rlho27 ?rlk27; (case rle27 => rfl); (case rlho27 => (simp only [List.getElem?_toArray, List.getElem?_cons_succ, List.getElem?_cons_zero]; rfl)))
                    go_wp2
                    refine ⟨rfl, ?_⟩
                    refine Rely.Tg.done ?_
                    go_wp2
                    go_meet
                    exact ⟨rfl, HCUT⟩
                · go_wp2
                  refine ⟨rfl, ?_⟩
                  (refine Rely.Tg.two (o := ?rlo28) (o' := ?rlp28) 12 13 [13,15,16] [12,15,16] (by kernel_rfl) ?rle28 ?rlf28 ?rlho28 ?rlhp28 ?rlk28 ?rlm28; (case rle28 => rfl); (case rlf28 => rfl); (case rlho28 => (simp only [List.getElem?_toArray, List.getElem?_cons_succ, List.getElem?_cons_zero]; rfl)); (case rlhp28 => (simp only [List.getElem?_toArray, List.getElem?_cons_succ, List.getElem?_cons_zero]; rfl)))
                  · go_wp2
                    refine ⟨rfl, ?_⟩
                    (refine Rely.Tg.two (o := ?rlo29) (o' := ?rlp29) 13 15 [15,16] [13,16] (by kernel_rfl) ?rle29 ?rlf29 ?rlho29 ?rlhp29 ?rlk29 ?rlm29; (case rle29 => rfl); (case rlf29 => rfl); (case rlho29 => (simp only [List.getElem?_toArray, List.getElem?_cons_succ, List.getElem?_cons_zero]; rfl)); (case rlhp29 => (simp only [List.getElem?_toArray, List.getElem?_cons_succ, List.getElem?_cons_zero]; rfl)))
                    · go_wp2
                      refine ⟨rfl, ?_⟩
                      (refine Rely.Tg.one (o := ?rlo30) 15 [16] (by kernel_rfl) ?rle30 ?rlho30 ?rlk30; (case rle30 => rfl); (case rlho30 => (simp only [List.getElem?_toArray, List.getElem?_cons_succ, List.getElem?_cons_zero]; rfl)))
                      go_wp2
                      refine ⟨rfl, ?_⟩
                      (refine Rely.Tg.one (o := ?rlo31) 16 [] (by kernel_rfl) ?rle31 ?rlho31 ?rlk31; (case rle31 => rfl); (case rlho31 => (simp only [List.getElem?_toArray, List.getElem?_cons_succ, List.getElem?_cons_zero]; rfl)))
                      go_wp2
                      refine ⟨rfl, ?_⟩
                      refine Rely.Tg.done ?_
                      go_wp2
                      go_meet
                      exact ⟨rfl, HCUT⟩
                    · go_wp2
                      refine ⟨rfl, ?_⟩
                      (refine Rely.Tg.one (o := ?rlo32) 13 [16] (by kernel_rfl) ?rle32 ?rlho32 ?rlk32; (case rle32 => rfl); (case rlho32 => (simp only [List.getElem?_toArray, List.getElem?_cons_succ, List.getElem?_cons_zero]; rfl)))
                      go_wp2
                      refine ⟨rfl, ?_⟩
                      (refine Rely.Tg.one (o := ?rlo33) 16 [] (by kernel_rfl) ?rle33 ?rlho33 ?rlk33; (case rle33 => rfl); (case rlho33 => (simp only [List.getElem?_toArray, List.getElem?_cons_succ, List.getElem?_cons_zero]; rfl)))
                      go_wp2
                      refine ⟨rfl, ?_⟩
                      refine Rely.Tg.done ?_
                      go_wp2
                      go_meet
                      exact ⟨rfl, HCUT⟩
                  · go_wp2
                    refine ⟨rfl, ?_⟩
                    (refine Rely.Tg.one (o := ?rlo34) 12 [15,16] (by kernel_rfl) ?rle34 ?rlho34 ?rlk34; (case rle34 => rfl); (case rlho34 => (simp only [List.getElem?_toArray, List.getElem?_cons_succ, List.getElem?_cons_zero]; rfl)))
                    go_wp2
                    refine ⟨rfl, ?_⟩
                    (refine Rely.Tg.one (o := ?rlo35) 15 [16] (by kernel_rfl) ?rle35 ?rlho35 ?rlk35; (case rle35 => rfl); (case rlho35 => (simp only [List.getElem?_toArray, List.getElem?_cons_succ, List.getElem?_cons_zero]; rfl)))
                    go_wp2
                    refine ⟨rfl, ?_⟩
                    (refine Rely.Tg.one (o := ?rlo36) 16 [] (by kernel_rfl) ?rle36 ?rlho36 ?rlk36; (case rle36 => rfl); (case rlho36 => (simp only [List.getElem?_toArray, List.getElem?_cons_succ, List.getElem?_cons_zero]; rfl)))
                    go_wp2
                    refine ⟨rfl, ?_⟩
                    refine Rely.Tg.done ?_
                    go_wp2
                    go_meet
                    exact ⟨rfl, HCUT⟩
              · go_wp2
                refine ⟨rfl, ?_⟩
                (refine Rely.Tg.two (o := ?rlo37) (o' := ?rlp37) 11 13 [13,14,15,16] [11,14,15,16] (by kernel_rfl) ?rle37 ?rlf37 ?rlho37 ?rlhp37 ?rlk37 ?rlm37; (case rle37 => rfl); (case rlf37 => rfl); (case rlho37 => (simp only [List.getElem?_toArray, List.getElem?_cons_succ, List.getElem?_cons_zero]; rfl)); (case rlhp37 => (simp only [List.getElem?_toArray, List.getElem?_cons_succ, List.getElem?_cons_zero]; rfl)))
                · go_wp2
                  refine ⟨rfl, ?_⟩
                  (refine Rely.Tg.two (o := ?rlo38) (o' := ?rlp38) 13 14 [14,15,16] [13,15,16] (by kernel_rfl) ?rle38 ?rlf38 ?rlho38 ?rlhp38 ?rlk38 ?rlm38; (case rle38 => rfl); (case rlf38 => rfl); (case rlho38 => (simp only [List.getElem?_toArray, List.getElem?_cons_succ, List.getElem?_cons_zero]; rfl)); (case rlhp38 => (simp only [List.getElem?_toArray, List.getElem?_cons_succ, List.getElem?_cons_zero]; rfl)))
                  · go_wp2
                    refine ⟨rfl, ?_⟩
                    (refine Rely.Tg.one (o := ?rlo39) 14 [15,16] (by kernel_rfl) ?rle39 ?rlho39 ?rlk39; (case rle39 => rfl); (case rlho39 => (simp only [List.getElem?_toArray, List.getElem?_cons_succ, List.getElem?_cons_zero]; rfl)))
                    go_wp2
                    refine ⟨rfl, ?_⟩
                    (refine Rely.Tg.one (o := ?rlo40) 15 [16] (by kernel_rfl) ?rle40 ?rlho40 ?rlk40; (case rle40 => rfl); (case rlho40 => (simp only [List.getElem?_toArray, List.getElem?_cons_succ, List.getElem?_cons_zero]; rfl)))
                    go_wp2
                    refine ⟨rfl, ?_⟩
                    (refine Rely.Tg.one (o := ?rlo41) 16 [] (by kernel_rfl) ?rle41 ?rlho41 ?rlk41; (case rle41 => rfl); (case rlho41 => (simp only [List.getElem?_toArray, List.getElem?_cons_succ, List.getElem?_cons_zero]; rfl)))
                    go_wp2
                    refine ⟨rfl, ?_⟩
                    refine Rely.Tg.done ?_
                    go_wp2
                    go_meet
                    exact ⟨rfl, HCUT⟩
                  · go_wp2
                    refine ⟨rfl, ?_⟩
                    (refine Rely.Tg.two (o := ?rlo42) (o' := ?rlp42) 13 15 [15,16] [13,16] (by kernel_rfl) ?rle42 ?rlf42 ?rlho42 ?rlhp42 ?rlk42 ?rlm42; (case rle42 => rfl); (case rlf42 => rfl); (case rlho42 => (simp only [List.getElem?_toArray, List.getElem?_cons_succ, List.getElem?_cons_zero]; rfl)); (case rlhp42 => (simp only [List.getElem?_toArray, List.getElem?_cons_succ, List.getElem?_cons_zero]; rfl)))
                    · go_wp2
                      refine ⟨rfl, ?_⟩
                      (refine Rely.Tg.one (o := ?rlo43) 15 [16] (by kernel_rfl) ?rle43 ?rlho43 ?rlk43; (case rle43 => rfl); (case rlho43 => (simp only [List.getElem?_toArray, List.getElem?_cons_succ, List.getElem?_cons_zero]; rfl)))
                      go_wp2
                      refine ⟨rfl, ?_⟩
                      (refine Rely.Tg.one (o := ?rlo44) 16 [] (by kernel_rfl) ?rle44 ?rlho44 ?rlk44; (case rle44 => rfl); (case rlho44 => (simp only [List.getElem?_toArray, List.getElem?_cons_succ, List.getElem?_cons_zero]; rfl)))
                      go_wp2
                      refine ⟨rfl, ?_⟩
                      refine Rely.Tg.done ?_
                      go_wp2
                      go_meet
                      exact ⟨rfl, HCUT⟩
                    · go_wp2
                      refine ⟨rfl, ?_⟩
                      (refine Rely.Tg.one (o := ?rlo45) 13 [16] (by kernel_rfl) ?rle45 ?rlho45 ?rlk45; (case rle45 => rfl); (case rlho45 => (simp only [List.getElem?_toArray, List.getElem?_cons_succ, List.getElem?_cons_zero]; rfl)))
                      go_wp2
                      refine ⟨rfl, ?_⟩
                      (refine Rely.Tg.one (o := ?rlo46) 16 [] (by kernel_rfl) ?rle46 ?rlho46 ?rlk46; (case rle46 => rfl); (case rlho46 => (simp only [List.getElem?_toArray, List.getElem?_cons_succ, List.getElem?_cons_zero]; rfl)))
                      go_wp2
                      refine ⟨rfl, ?_⟩
                      refine Rely.Tg.done ?_
                      go_wp2
                      go_meet
                      exact ⟨rfl, HCUT⟩
                · go_wp2
                  refine ⟨rfl, ?_⟩
                  (refine Rely.Tg.one (o := ?rlo47) 11 [14,15,16] (by kernel_rfl) ?rle47 ?rlho47 ?rlk47; (case rle47 => rfl); (case rlho47 => (simp only [List.getElem?_toArray, List.getElem?_cons_succ, List.getElem?_cons_zero]; rfl)))
                  go_wp2
                  refine ⟨rfl, ?_⟩
                  (refine Rely.Tg.one (o := ?rlo48) 14 [15,16] (by kernel_rfl) ?rle48 ?rlho48 ?rlk48; (case rle48 => rfl); (case rlho48 => (simp only [List.getElem?_toArray, List.getElem?_cons_succ, List.getElem?_cons_zero]; rfl)))
                  go_wp2
                  refine ⟨rfl, ?_⟩
                  (refine Rely.Tg.one (o := ?rlo49) 15 [16] (by kernel_rfl) ?rle49 ?rlho49 ?rlk49; (case rle49 => rfl); (case rlho49 => (simp only [List.getElem?_toArray, List.getElem?_cons_succ, List.getElem?_cons_zero]; rfl)))
                  go_wp2
                  refine ⟨rfl, ?_⟩
                  (refine Rely.Tg.one (o := ?rlo50) 16 [] (by kernel_rfl) ?rle50 ?rlho50 ?rlk50; (case rle50 => rfl); (case rlho50 => (simp only [List.getElem?_toArray, List.getElem?_cons_succ, List.getElem?_cons_zero]; rfl)))
                  go_wp2
                  refine ⟨rfl, ?_⟩
                  refine Rely.Tg.done ?_
                  go_wp2
                  go_meet
                  exact ⟨rfl, HCUT⟩
              · go_wp2
                refine ⟨rfl, ?_⟩
                (refine Rely.Tg.two (o := ?rlo51) (o' := ?rlp51) 11 12 [12,14,15,16] [11,14,15,16] (by kernel_rfl) ?rle51 ?rlf51 ?rlho51 ?rlhp51 ?rlk51 ?rlm51; (case rle51 => rfl); (case rlf51 => rfl); (case rlho51 => (simp only [List.getElem?_toArray, List.getElem?_cons_succ, List.getElem?_cons_zero]; rfl)); (case rlhp51 => (simp only [List.getElem?_toArray, List.getElem?_cons_succ, List.getElem?_cons_zero]; rfl)))
                · go_wp2
                  refine ⟨rfl, ?_⟩
                  (refine Rely.Tg.two (o := ?rlo52) (o' := ?rlp52) 12 14 [14,15,16] [12,15,16] (by kernel_rfl) ?rle52 ?rlf52 ?rlho52 ?rlhp52 ?rlk52 ?rlm52; (case rle52 => rfl); (case rlf52 => rfl); (case rlho52 => (simp only [List.getElem?_toArray, List.getElem?_cons_succ, List.getElem?_cons_zero]; rfl)); (case rlhp52 => (simp only [List.getElem?_toArray, List.getElem?_cons_succ, List.getElem?_cons_zero]; rfl)))
                  · go_wp2
                    refine ⟨rfl, ?_⟩
                    (refine Rely.Tg.one (o := ?rlo53) 14 [15,16] (by kernel_rfl) ?rle53 ?rlho53 ?rlk53; (case rle53 => rfl); (case rlho53 => (simp only [List.getElem?_toArray, List.getElem?_cons_succ, List.getElem?_cons_zero]; rfl)))
                    go_wp2
                    refine ⟨rfl, ?_⟩
                    (refine Rely.Tg.one (o := ?rlo54) 15 [16] (by kernel_rfl) ?rle54 ?rlho54 ?rlk54; (case rle54 => rfl); (case rlho54 => (simp only [List.getElem?_toArray, List.getElem?_cons_succ, List.getElem?_cons_zero]; rfl)))
                    go_wp2
                    refine ⟨rfl, ?_⟩
                    (refine Rely.Tg.one (o := ?rlo55) 16 [] (by kernel_rfl) ?rle55 ?rlho55 ?rlk55; (case rle55 => rfl); (case rlho55 => (simp only [List.getElem?_toArray, List.getElem?_cons_succ, List.getElem?_cons_zero]; rfl)))
                    go_wp2
                    refine ⟨rfl, ?_⟩
                    refine Rely.Tg.done ?_
                    go_wp2
                    go_meet
                    exact ⟨rfl, HCUT⟩
                  · go_wp2
                    refine ⟨rfl, ?_⟩
                    (refine Rely.Tg.one (o := ?rlo56) 12 [15,16] (by kernel_rfl) ?rle56 ?rlho56 ?rlk56; (case rle56 => rfl); (case rlho56 => (simp only [List.getElem?_toArray, List.getElem?_cons_succ, List.getElem?_cons_zero]; rfl)))
                    go_wp2
                    refine ⟨rfl, ?_⟩
                    (refine Rely.Tg.one (o := ?rlo57) 15 [16] (by kernel_rfl) ?rle57 ?rlho57 ?rlk57; (case rle57 => rfl); (case rlho57 => (simp only [List.getElem?_toArray, List.getElem?_cons_succ, List.getElem?_cons_zero]; rfl)))
                    go_wp2
                    refine ⟨rfl, ?_⟩
                    (refine Rely.Tg.one (o := ?rlo58) 16 [] (by kernel_rfl) ?rle58 ?rlho58 ?rlk58; (case rle58 => rfl); (case rlho58 => (simp only [List.getElem?_toArray, List.getElem?_cons_succ, List.getElem?_cons_zero]; rfl)))
                    go_wp2
                    refine ⟨rfl, ?_⟩
                    refine Rely.Tg.done ?_
                    go_wp2
                    go_meet
                    exact ⟨rfl, HCUT⟩
                · go_wp2
                  refine ⟨rfl, ?_⟩
                  (refine Rely.Tg.one (o := ?rlo59) 11 [14,15,16] (by kernel_rfl) ?rle59 ?rlho59 ?rlk59; (case rle59 => rfl); (case rlho59 => (simp only [List.getElem?_toArray, List.getElem?_cons_succ, List.getElem?_cons_zero]; rfl)))
                  go_wp2
                  refine ⟨rfl, ?_⟩
                  (refine Rely.Tg.one (o := ?rlo60) 14 [15,16] (by kernel_rfl) ?rle60 ?rlho60 ?rlk60; (case rle60 => rfl); (case rlho60 => (simp only [List.getElem?_toArray, List.getElem?_cons_succ, List.getElem?_cons_zero]; rfl)))
                  go_wp2
                  refine ⟨rfl, ?_⟩
                  (refine Rely.Tg.one (o := ?rlo61) 15 [16] (by kernel_rfl) ?rle61 ?rlho61 ?rlk61; (case rle61 => rfl); (case rlho61 => (simp only [List.getElem?_toArray, List.getElem?_cons_succ, List.getElem?_cons_zero]; rfl)))
                  go_wp2
                  refine ⟨rfl, ?_⟩
                  (refine Rely.Tg.one (o := ?rlo62) 16 [] (by kernel_rfl) ?rle62 ?rlho62 ?rlk62; (case rle62 => rfl); (case rlho62 => (simp only [List.getElem?_toArray, List.getElem?_cons_succ, List.getElem?_cons_zero]; rfl)))
                  go_wp2
                  refine ⟨rfl, ?_⟩
                  refine Rely.Tg.done ?_
                  go_wp2
                  go_meet
                  exact ⟨rfl, HCUT⟩
            case rest =>
              obtain ⟨rfl, hcut⟩ := hcut
              obtain ⟨hl, hc, hbc⟩ := hcut.out
              obtain ⟨Al, cl, rfl, _⟩ := hl.shape
              obtain ⟨Ac, cc, rfl, _⟩ := hc.shape
              have hcl : (commitsOf (secOf rows secret random)).length = cols rows := by unfold commitsOf; rw [List.length_map, sec_len hcp]
              rw [dealt_len] at hl ⊢
              rw [hcl] at hc ⊢
              have HL := Lib.hid hl
              have HC := Lib.hid hc
              have HBC : Hid (Below w.heap.size w wc) := Lib.hid (HB3.out.trans (hbc.mono HB3.out.size))
              have HROWC := Lib.hid ((hbc.block _ (Array.getElem?_eq_some_iff.1 HROW3.out).1).trans HROW3.out)
              have HOWNC := Lib.hid (HOWN3.out.below hbc)
              replace c9 := keep hbc c9
              replace c8 := keep hbc c8
              have hcw : ((cols rows : Int) != (cols rows : Int)) = false := by simp
              clear hcut hl hc hbc hcl hcs hcp HW3 c0 c1 c2 c3 c4 c5 c6 c7 j0 j1 j2 j3 j4 j5 j6 j7 f00 f01 f02 f03 f04 f05 f06 f07
              go_wp2_with fail
              refine (refColumns_any _ _ rows _ (HR.out.below HBC.out)).mono ?_
              rintro e w4 ⟨rfl, hb4⟩
              have HB4 : Hid (Below w.heap.size w w4) := Lib.hid (HBC.out.trans (hb4.mono HBC.out.size))
              have HL4 := Lib.hid (HL.out.below hb4)
              have HC4 := Lib.hid (HC.out.below hb4)
              have HROW4 := Lib.hid ((hb4.block _ (Array.getElem?_eq_some_iff.1 HROWC.out).1).trans HROWC.out)
              have HOWN4 := Lib.hid (HOWNC.out.below hb4)
              have HP4 : Hid (w4.cell? ⟨w.heap.size, 0, none⟩ = some (.slice Ar rows.length cr) ∧ w4.cell? ⟨w.heap.size, 1, none⟩ = some (.slice Bo owners.length co)) := Lib.hid ⟨keep hb4 c9, keep hb4 c8⟩
              clear hb4 c9 c8
              have hr16 : rows.length ≤ 16 := HSM2.out.1
              go_wp2
              go_loopw [20, 21, 102] (fun _ _ v102 wr => ∃ k : Nat, k ≤ rows.length ∧ v102 = I k ∧ Hid (Below w4.heap.size w4 wr)) (fun _ _ v102 _ => rows.length - (intOf v102).toNat)
              case atStart => exact ⟨0, Nat.zero_le _, rfl, Lib.hid (Below.refl _ _)⟩
              case round =>
                obtain ⟨k, hk, rfl, hbk⟩ := hrel
                by_cases hlt : k < rows.length
                · obtain ⟨al, rfl, h1, h2⟩ := (HL4.out.below hbk.out).at k (by rw [dealt_len]; exact hlt)
                  rw [dealt_row] at h1
                  generalize ((dealt rows (secOf rows secret random))[k]'(by rw [dealt_len]; exact hlt)).2 = z at *
                  have HBX : Hid (Below w4.heap.size w4 (wr.alloc (.cells #[I k, I z] 81))) := Lib.hid (hbk.out.alloc hbk.out.size _)
                  go_wp2
                  go_roundw
                  case rel => exact ⟨k + 1, by omega, by go_num, HBX⟩
                  case measure => simp [intOf]; omega
                · obtain rfl : k = rows.length := by omega
                  obtain ⟨w5, hw5⟩ : ∃ w5, w5 = wr := ⟨_, rfl⟩
                  subst hw5
                  clear hlt hk
                  go_upto_region 21 with (fail)
                  have HBW5 : Hid (Below w.heap.size w w5) := Lib.hid (HB4.out.trans (hbk.out.mono HB4.out.size))
                  have HROW5 := Lib.hid ((hbk.out.block _ (Array.getElem?_eq_some_iff.1 HROW4.out).1).trans HROW4.out)
                  have HL5 := Lib.hid (HL4.out.below hbk.out)
                  have HC5 := Lib.hid (HC4.out.below hbk.out)
                  have HOWN5 := Lib.hid (HOWN4.out.below hbk.out)
                  have c0 := keep hbk.out HP4.out.1
                  have c1 := keep hbk.out HP4.out.2
                  have t5 : w5.cell? ⟨W1.heap.size, 5, none⟩ = some (.slice Aw who.length cw) := by rw [cell_of_row w5 _ 5 _ _ (0, 0) HROW5.out]; rfl
                  have HWL : Hid (who.length ≤ 16) := Lib.hid HTL.out
                  obtain ⟨m, hm⟩ : ∃ m, m = 2 * who.length := ⟨_, rfl⟩
                  have HM := Lib.hid hm
                  have hmw : IntKind.i64.wrap (2 * (who.length : Int)) = (m : Int) := by
                    have := HTL.out
                    rw [wraps_i64 _ (by omega) (by omega)]; omega
                  clear hm
                  refine Rely.regionB _ _ (by kernel_rfl) [0,1,2,3,4,5,6,7,8,10] [9] [11,12,13,14,15] (NnV m nonces) (fun _ => True) (by kernel_rfl) (fun _ _ => trivial) ?_
                  (refine Rely.Fx.load ?rlcx rfl (by kernel_rfl) rfl (Rely.Stab.refl _ _ _) (fun _ hb => ?rlhx) ?rlkx; (case rlhx => (have hr0 := (hb.cell (cell_old c0)).trans c0; have hr1 := (hb.cell (cell_old c1)).trans c1; go_simp; try rfl)); go_simp)
                  (refine Rely.Fx.run ?rlc63 rfl rfl (fun _ _ => ?rlh63) ?rlk63; (case rlh63 => (go_simp; try rfl)); go_simp)
                  (refine Rely.Fx.run ?rlc64 rfl rfl (fun _ _ => ?rlh64) ?rlk64; (case rlh64 => (go_simp; try rfl)); go_simp)
                  (refine Rely.Fx.run ?rlc65 rfl rfl (fun _ _ => ?rlh65) ?rlk65; (case rlh65 => (go_simp; try rfl)); go_simp)
                  (refine Rely.Fx.run ?rlc66 rfl rfl (fun _ _ => ?rlh66) ?rlk66; (case rlh66 => (go_simp; try rfl)); go_simp)
                  (refine Rely.Fx.load ?rlc67 rfl (by kernel_rfl) rfl (Rely.Stab.refl _ _ _) (fun _ hb => ?rlh67) ?rlk67; (case rlh67 => (have hrl := (hb.cell (cell_old t5)).trans t5; go_simp; try rfl)); go_simp)
                  (refine Rely.Fx.run ?rlc68 rfl rfl (fun _ _ => ?rlh68) ?rlk68; (case rlh68 => (go_simp; try rfl)); go_simp)
                  (refine Rely.Fx.run ?rlc69 rfl rfl (fun _ _ => ?rlh69) ?rlk69; (case rlh69 => (go_simp; try rfl)); go_simp)
                  (refine Rely.Fx.run ?rlc70 rfl rfl (fun _ _ => ?rlh70) ?rlk70; (case rlh70 => (go_simp; try rfl)); go_simp)
                  (refine Rely.Fx.run ?rlc71 rfl rfl (fun _ _ => ?rlh71) ?rlk71; (case rlh71 => (go_simp; try rfl)); go_simp)
                  refine Rely.Fx.done ?_
                  (refine Rely.Lt.step (o := ?rlo72) 122 ?rlho72 ?rlhd72 (by simp) ?rlh72 ?rlk72; (case rlho72 => (simp only [List.getElem?_toArray, List.getElem?_cons_succ, List.getElem?_cons_zero]; rfl)); (case rlhd72 => rfl))
                  · intro w' hb hp
                    clear hp
                    go_wp2_with fail
                    refine (numbers_law m vn nonces w' (HN.out.below (HBW5.out.trans (hb.mono HBW5.out.size))) (by have := HM.out; have := HWL.out; omega)).mono ?_
                    rintro r w6 ⟨u, rfl, hu, hb6⟩
                    have HU6 := Lib.hid hu
                    have HB6 := Lib.hid hb6
                    clear hu hb6
                    go_wp2
                    refine ⟨_, rfl, HU6.out, hb.trans (HB6.out.mono hb.size), fun j _ _ u hu => ?_⟩
                    unfold NnV at *
                    split at hu
                    · exact Ints.below hu HB6.out
                    · trivial
                  intro v9
                  go_simp
                  refine Rely.Lt.done ?_
                  intro w6 hb6 hp
                  have hv9 : NnV m nonces 9 v9 w6 := hp.one
                  have hv9' : Ints w6 v9 (numsOf m nonces) := hv9
                  obtain ⟨An, cn, rfl, _⟩ := hv9'.shape
                  rw [numsOf_len] at hv9' ⊢
                  have HN6 := Lib.hid hv9'
                  have HBW6 : Hid (Below w.heap.size w w6) := Lib.hid (HBW5.out.trans (hb6.mono HBW5.out.size))
                  have HROW6 := Lib.hid ((hb6.block _ (Array.getElem?_eq_some_iff.1 HROW5.out).1).trans HROW5.out)
                  have HL6 := Lib.hid (HL5.out.below hb6)
                  have HC6 := Lib.hid (HC5.out.below hb6)
                  have HW6 : Hid (Ints w6 (.slice Aw who.length cw) who) := Lib.hid ((HOWN5.out.below hb6).ints (by have := HWL.out; omega))
                  clear hb6 hp hv9 hv9' hmw t5 c0 c1
                  (refine Rely.Tl.step (o := ?rlo73) ?rlho73 ?rlk73; (case rlho73 => (simp only [List.getElem?_toArray, List.getElem?_cons_succ, List.getElem?_cons_zero]; rfl)))
                  go_wp2_with (refine wpList_storeK rfl _ _ rfl W1.heap.size _ _ _ _ _ _ _ _ _ ⟨I 0, .slice Ar rows.length cr, .slice Bo owners.length co, .slice Ac (cols rows) cc⟩ rfl rfl HROW6.out (by intro u hu; simp at hu; rcases hu with rfl | rfl | rfl | rfl <;> rfl) ?_; intro w7 hr7 hs7 hz7)
                  refine ⟨rfl, ?_⟩
                  have HR7 : Hid (w7.heap[W1.heap.size]? = some (.cells (tabC 0 (.slice Ar rows.length cr) (.slice Bo owners.length co) (.slice Ac (cols rows) cc) nilS (.slice Aw who.length cw) nilS nilS) 46 (0, 0))) := hr7
                  have HS7 := Lib.hid hs7
                  have hz6 : W1.heap.size < w6.heap.size := (Array.getElem?_eq_some_iff.1 HROW6.out).1
                  have d4 : w7.cell? ⟨W1.heap.size, 4, none⟩ = some nilS := by rw [cell_of_row w7 _ 4 _ _ (0, 0) HR7.out]; rfl
                  have g4 : w7.frozen? ⟨W1.heap.size, 4, none⟩ = false := by unfold World.frozen?; rw [HR7.out]; rfl
                  have d7 : (w7.setCell ⟨W1.heap.size, 4, none⟩ (.slice Al rows.length cl)).cell? ⟨W1.heap.size, 7, none⟩ = some nilS := by rw [cell_of_row _ _ 7 _ _ (0, 0) (row_set HR7.out 4 _)]; rfl
                  have g7 : (w7.setCell ⟨W1.heap.size, 4, none⟩ (.slice Al rows.length cl)).frozen? ⟨W1.heap.size, 7, none⟩ = false := by unfold World.frozen?; rw [row_set HR7.out 4 _]; rfl
                  obtain ⟨w8, hw8⟩ : ∃ w8, (w7.setCell ⟨W1.heap.size, 4, none⟩ (.slice Al rows.length cl)).setCell ⟨W1.heap.size, 7, none⟩ (.slice An m cn) = w8 := ⟨_, rfl⟩
                  have HR8 : Hid (w8.heap[W1.heap.size]? = some (.cells (tabC 0 (.slice Ar rows.length cr) (.slice Bo owners.length co) (.slice Ac (cols rows) cc) (.slice Al rows.length cl) (.slice Aw who.length cw) nilS (.slice An m cn)) 46 (0, 0))) := Lib.hid (by rw [← hw8]; exact row_set (row_set HR7.out 4 _) 7 _)
                  have HS8 : Hid (Same (fun k => k ≠ W1.heap.size) w6 w8) := Lib.hid (by rw [← hw8]; exact (HS7.out.setCell (.inl fun h => h rfl) _).setCell (.inl fun h => h rfl) _)
                  have HIC : Hid (IntCells w6 w8) := Lib.hid (IntCells.tab HROW6.out HR8.out HS8.out (by intro s hs n e; simp at hs; rcases hs with rfl | rfl | rfl | rfl | rfl | rfl | rfl <;> cases e))
                  have HBW8 : Hid (Below w.heap.size w w8) := Lib.hid (HBW6.out.trans (HS8.out.below (fun k hk => by have := HZ1.out; omega) HBW6.out.size))
                  clear hr7 hs7 hz7
                  (refine Rely.Tl.step (o := ?rlo74) ?rlho74 ?rlk74; (case rlho74 => (simp only [List.getElem?_toArray, List.getElem?_cons_succ, List.getElem?_cons_zero]; rfl)))
                  go_wp2
                  refine ⟨rfl, ?_⟩
                  (refine Rely.Tl.step (o := ?rlo75) ?rlho75 ?rlk75; (case rlho75 => (simp only [List.getElem?_toArray, List.getElem?_cons_succ, List.getElem?_cons_zero]; rfl)))
                  go_wp2
                  refine ⟨rfl, ?_⟩
                  (refine Rely.Tl.step (o := ?rlo76) ?rlho76 ?rlk76; (case rlho76 => (simp only [List.getElem?_toArray, List.getElem?_cons_succ, List.getElem?_cons_zero]; rfl)))
                  go_wp2
                  refine ⟨rfl, ?_⟩
                  (refine Rely.Tl.last (o := ?rlo77) ?rlho77 ?rlk77; (case rlho77 => (simp only [List.getElem?_toArray, List.getElem?_cons_succ, List.getElem?_cons_zero]; rfl)))
                  go_wp2
                  refine ⟨rfl, ?_⟩
                  clear hw8 d4 g4 d7 g7
                  have t5 : w8.cell? ⟨W1.heap.size, 5, none⟩ = some (.slice Aw who.length cw) := by rw [cell_of_row w8 _ 5 _ _ (0, 0) HR8.out]; rfl
                  go_wp2
                  have hwl := HWL.out
                  go_loopw [22, 23, 24, 25, 129] (fun _ _ _ _ v129 wr => ∃ k : Nat, k ≤ who.length ∧ v129 = I k ∧ Hid (Below w.heap.size w wr) ∧ Hid (∃ vp, wr.heap[W1.heap.size]? = some (.cells (tabC 0 (.slice Ar rows.length cr) (.slice Bo owners.length co) (.slice Ac (cols rows) cc) (.slice Al rows.length cl) (.slice Aw who.length cw) vp (.slice An m cn)) 46 (0, 0)) ∧ OwnOf 85 4 encP wr w8.heap.size vp (((kpsOf who (numsOf m nonces)).map Kp.pr).take k)) ∧ Hid (IntCells w8 wr) ∧ Hid (w8.heap.size ≤ wr.heap.size)) (fun _ _ _ _ v129 _ => who.length - (intOf v129).toNat)
                  case atStart => exact ⟨0, Nat.zero_le _, rfl, HBW8, Lib.hid ⟨nilS, HR8.out, OwnOf.nil _ _ _ _ _⟩, Lib.hid (IntCells.refl _), Lib.hid (Nat.le_refl _)⟩
                  case round =>
                    obtain ⟨k, hk, rfl, hbr, htb, hic, hsz⟩ := hrel
                    obtain ⟨vp, hrow, hown⟩ := htb.out
                    obtain ⟨Ap, cp, rfl⟩ := hown.shape
                    have hpl : (((kpsOf who (numsOf m nonces)).map Kp.pr).take k).length = k := by rw [List.length_take, kps_len]; omega
                    rw [hpl] at hrow hown
                    have HRW := Lib.hid hrow
                    have HOP := Lib.hid hown
                    have HPL := Lib.hid hpl
                    clear hrow hown htb hpl
                    by_cases hlt : k < who.length
                    · obtain ⟨aw, rfl, hwc⟩ := (HW6.out.ik (IntCells.trans HIC.out hic.out)).at k hlt
                      have hml := HM.out
                      have hnl : (numsOf m nonces).length = m := numsOf_len m nonces
                      have hn0 : 2 * k < m := by omega
                      have hn1 : 2 * k + 1 < m := by omega
                      obtain ⟨an, rfl, hc0⟩ := (HN6.out.ik (IntCells.trans HIC.out hic.out)).at (2 * k) (by rw [numsOf_len]; exact hn0)
                      obtain ⟨an2, e2, hc1⟩ := (HN6.out.ik (IntCells.trans HIC.out hic.out)).at (2 * k + 1) (by rw [numsOf_len]; exact hn1)
                      injection e2 with e2
                      subst e2
                      have HTK := Lib.hid (kps_take (ns := numsOf m nonces) hlt)
                      have gw : who.getD k 0 = who[k] := by simp [hlt]
                      have g0 : (numsOf m nonces).getD (2 * k) 0 = (numsOf m nonces)[2 * k]'(by rw [numsOf_len]; exact hn0) := by simp [hnl, hn0]
                      have g1 : (numsOf m nonces).getD (2 * k + 1) 0 = (numsOf m nonces)[2 * k + 1]'(by rw [numsOf_len]; exact hn1) := by simp [hnl, hn1]
                      rw [← gw] at hwc
                      rw [← g0] at hc0
                      rw [← g1] at hc1
                      have HKR : Hid (0 ≤ who.getD k 0 ∧ who.getD k 0 < 16) := Lib.hid (by rw [gw]; exact HOK.out.2 _ (List.getElem_mem hlt))
                      obtain ⟨n, hn⟩ : ∃ n, who.getD k 0 = n := ⟨_, rfl⟩
                      obtain ⟨n0, hn0'⟩ : ∃ n, (numsOf m nonces).getD (2 * k) 0 = n := ⟨_, rfl⟩
                      obtain ⟨n1, hn1'⟩ : ∃ n, (numsOf m nonces).getD (2 * k + 1) 0 = n := ⟨_, rfl⟩
                      rw [hn] at hwc HTK HKR
                      rw [hn0'] at hc0 HTK
                      rw [hn1'] at hc1 HTK
                      rw [show an.add (2 * k + 1) = ⟨an.block, an.off + (2 * k + 1), none⟩ by unfold Addr.add; rw [if_neg (by omega)]] at hc1
                      have mw1 : IntKind.i64.wrap (2 * (k : Int)) = 2 * (k : Int) := wraps_i64 _ (by omega) (by omega)
                      have mw2 : IntKind.i64.wrap (2 * (k : Int) + 1) = 2 * (k : Int) + 1 := wraps_i64 _ (by omega) (by omega)
                      have m1 : (0 : Int) ≤ 2 * (k : Int) := by omega
                      have m2 : 2 * (k : Int) < (m : Int) := by omega
                      have m3 : (2 * (k : Int)).toNat = 2 * k := by omega
                      have m4 : (0 : Int) ≤ 2 * (k : Int) + 1 := by omega
                      have m5 : 2 * (k : Int) + 1 < (m : Int) := by omega
                      have m6 : (2 * (k : Int) + 1).toNat = 2 * k + 1 := by omega
                      have q7 : wr.cell? ⟨W1.heap.size, 7, none⟩ = some (.slice (some an) m cn) := by rw [cell_of_row wr _ 7 _ _ (0, 0) HRW.out]; rfl
                      clear gw g0 g1 hn hn0' hn1' hnl hml
                      go_wp2
                      refine Rely.regionB _ _ (by kernel_rfl) [0,1,2,3,4,5,6,7,8,9,10,11,12,13,14,15,16,17] [18] [19,20] (PlV wr) (fun _ => True) (by kernel_rfl) (fun _ _ => trivial) ?_
                      (refine Rely.Fx.run ?rlc78 rfl rfl (fun _ _ => ?rlh78) ?rlk78; (case rlh78 => (go_simp; try rfl)); go_simp)
                      (refine Rely.Fx.run ?rlc79 rfl rfl (fun _ _ => ?rlh79) ?rlk79; (case rlh79 => (go_simp; try rfl)); go_simp)
                      (refine Rely.Fx.load ?rlc80 rfl (by kernel_rfl) rfl (Rely.Stab.refl _ _ _) (fun _ hb => ?rlh80) ?rlk80; (case rlh80 => (have hrl := (hb.cell (cell_old q7)).trans q7; go_simp; try rfl)); go_simp)
                      (refine Rely.Fx.run ?rlc81 rfl rfl (fun _ _ => ?rlh81) ?rlk81; (case rlh81 => (go_simp; try rfl)); go_simp)
                      (refine Rely.Fx.run ?rlc82 rfl rfl (fun _ _ => ?rlh82) ?rlk82; (case rlh82 => (go_simp; try rfl)); go_simp)
                      (refine Rely.Fx.run ?rlc83 rfl rfl (fun _ _ => ?rlh83) ?rlk83; (case rlh83 => (go_simp; try rfl)); go_simp)
                      (refine Rely.Fx.load ?rlc84 rfl (by kernel_rfl) rfl (Rely.Stab.refl _ _ _) (fun _ hb => ?rlh84) ?rlk84; (case rlh84 => (have hrl := (hb.cell (cell_old hc0)).trans hc0; go_simp; try rfl)); go_simp)
                      (refine Rely.Fx.run ?rlc85 rfl rfl (fun _ _ => ?rlh85) ?rlk85; (case rlh85 => (go_simp; try rfl)); go_simp)
                      (refine Rely.Fx.load ?rlc86 rfl (by kernel_rfl) rfl (Rely.Stab.refl _ _ _) (fun _ hb => ?rlh86) ?rlk86; (case rlh86 => (have hrl := (hb.cell (cell_old q7)).trans q7; go_simp; try rfl)); go_simp)
                      (refine Rely.Fx.run ?rlc87 rfl rfl (fun _ _ => ?rlh87) ?rlk87; (case rlh87 => (go_simp; try rfl)); go_simp)
                      (refine Rely.Fx.run ?rlc88 rfl rfl (fun _ _ => ?rlh88) ?rlk88; (case rlh88 => (go_simp; try rfl)); go_simp)
                      (refine Rely.Fx.run ?rlc89 rfl rfl (fun _ _ => ?rlh89) ?rlk89; (case rlh89 => (go_simp; try rfl)); go_simp)
                      (refine Rely.Fx.run ?rlc90 rfl rfl (fun _ _ => ?rlh90) ?rlk90; (case rlh90 => (go_simp; try rfl)); go_simp)
                      (refine Rely.Fx.load ?rlc91 rfl (by kernel_rfl) rfl (Rely.Stab.refl _ _ _) (fun _ hb => ?rlh91) ?rlk91; (case rlh91 => (have hrl := (hb.cell (cell_old hc1)).trans hc1; go_simp; try rfl)); go_simp)
                      (refine Rely.Fx.call (o := ?rlo92) (Value.tuple #[.agg #[I n, I (n % 7), I (ex n0), I (ex n1)], .bool true]) 149 ?rlho92 ?rlhd92 (by simp) (by kernel_rfl) ?rlh92 ?rlk92; (case rlho92 => (simp only [List.getElem?_toArray, List.getElem?_cons_succ, List.getElem?_cons_zero]; rfl)); (case rlhd92 => rfl))
                      · intro w' hb
                        go_wp2_with fail
                        refine (pair_law n n0 n1 _ HKR.out.1 (by have := HKR.out.2; omega)).mono ?_
                        rintro r w9 ⟨rfl, hb9⟩
                        go_wp2
                        refine ⟨_, rfl, rfl, hb.trans (hb9.mono hb.size), fun j _ _ u hu => ?_⟩
                        unfold PlV at *
                        split at hu
                        · obtain ⟨g, e1, e2, e3⟩ := hu; exact ⟨g, e1, e2, (hb9.block g (Array.getElem?_eq_some_iff.1 e3).1).trans e3⟩
                        · trivial
                      go_simp
                      (refine Rely.Fx.run ?rlc93 rfl rfl (fun _ _ => ?rlh93) ?rlk93; (case rlh93 => (go_simp; try rfl)); go_simp)
                      (refine Rely.Fx.run ?rlc94 rfl rfl (fun _ _ => ?rlh94) ?rlk94; (case rlh94 => (go_simp; try rfl)); go_simp)
                      (refine Rely.Fx.run ?rlc95 rfl rfl (fun _ _ => ?rlh95) ?rlk95; (case rlh95 => (go_simp; try rfl)); go_simp)
                      refine Rely.Fx.done ?_
                      (refine Rely.Lt.step (o := ?rlo96) 24 ?rlho96 ?rlhd96 (by simp) ?rlh96 ?rlk96; (case rlho96 => (simp only [List.getElem?_toArray, List.getElem?_cons_succ, List.getElem?_cons_zero]; rfl)); (case rlhd96 => rfl))
                      · intro w' hb hp
                        clear hp
                        go_wp2
                        refine ⟨_, rfl, ⟨w'.heap.size, rfl, hb.size, heap_alloc_new _ _⟩, hb.alloc hb.size _, fun j _ hne u hu => ?_⟩
                        unfold PlV at *
                        split at hu
                        · obtain ⟨g, e1, e2, e3⟩ := hu; exact ⟨g, e1, e2, (heap_alloc_old w' _ (Array.getElem?_eq_some_iff.1 e3).1).trans e3⟩
                        · trivial
                      intro v18
                      go_simp
                      refine Rely.Lt.done ?_
                      intro w9 hb9 hp
                      obtain ⟨g, rfl, hg1, hg2⟩ : PlV wr 18 v18 w9 := hp.one
                      have HG1 := Lib.hid hg1
                      have HG2 := Lib.hid hg2
                      have HB9 := Lib.hid hb9
                      clear hp hg1 hg2 hb9 q7 hc0 hc1 hwc mw1 mw2 m1 m2 m3 m4 m5 m6 hn0 hn1
                      (refine Rely.Tl.step (o := ?rlo97) ?rlho97 ?rlk97; (case rlho97 => (simp only [List.getElem?_toArray, List.getElem?_cons_succ, List.getElem?_cons_zero]; rfl)))
                      go_wp2_with (refine wpList_storeP rfl _ _ rfl g _ _ ⟨I n, I (n % 7), I (ex n0), I (ex n1)⟩ rfl rfl HG2.out rfl (by intro u hu; simp at hu; rcases hu with rfl | rfl | rfl | rfl <;> rfl) ?_; intro w10 hr10 hs10 hz10)
                      refine ⟨rfl, ?_⟩
                      have HR10 : Hid (w10.heap[g]? = some (.cells #[I n, I (n % 7), I (ex n0), I (ex n1)] 85 (0, 0))) := hr10
                      have HB10 : Hid (Below wr.heap.size wr w10) := Lib.hid (HB9.out.trans (hs10.below (fun j hj => by have := HG1.out; omega) HB9.out.size))
                      have x0 : w10.cell? ⟨g, 0, none⟩ = some (I n) := by rw [cell_of_row w10 _ 0 _ _ (0, 0) HR10.out]; rfl
                      have x1 : w10.cell? ⟨g, 1, none⟩ = some (I (n % 7)) := by rw [cell_of_row w10 _ 1 _ _ (0, 0) HR10.out]; rfl
                      have x2 : w10.cell? ⟨g, 2, none⟩ = some (I (ex n0)) := by rw [cell_of_row w10 _ 2 _ _ (0, 0) HR10.out]; rfl
                      have x3 : w10.cell? ⟨g, 3, none⟩ = some (I (ex n1)) := by rw [cell_of_row w10 _ 3 _ _ (0, 0) HR10.out]; rfl
                      have hrw10 := (HB10.out.block _ (Array.getElem?_eq_some_iff.1 HRW.out).1).trans HRW.out
                      have y6 : w10.cell? ⟨W1.heap.size, 6, none⟩ = some (.slice Ap k cp) := by rw [cell_of_row w10 _ 6 _ _ (0, 0) hrw10]; rfl
                      have HOP10 := Lib.hid (HOP.out.below HB10.out)
                      have HRW10 := Lib.hid hrw10
                      have HZ10 : Hid (w8.heap.size ≤ w10.heap.size ∧ W1.heap.size < w8.heap.size) := Lib.hid ⟨Nat.le_trans hsz.out HB10.out.size, (Array.getElem?_eq_some_iff.1 HR8.out).1⟩
                      have HLEN : Hid (((((kpsOf who (numsOf m nonces)).map Kp.pr).take k).length + 1) * 32 ≤ 140737488355328) := Lib.hid (by rw [HPL.out]; omega)
                      clear hr10 hs10 hz10 hrw10
                      (refine Rely.Tl.last (o := ?rlo98) ?rlho98 ?rlk98; (case rlho98 => (simp only [List.getElem?_toArray, List.getElem?_cons_succ, List.getElem?_cons_zero]; rfl)))
                      go_wp2
                      refine ⟨rfl, ?_⟩
                      go_wp2_with (at_builtin; refine app_one (w0 := w10) w8.heap.size rfl _ _ 29 85 (.agg #[I 0, I 0, I 0, I 0]) 4 32 rfl Tryz.underlying29 info_pair rfl (by decide) (by decide) encP _ _ (Kp.pr ⟨n, n % 7, n0, n1⟩) (by rfl) #[I n, I (n % 7), I (ex n0), I (ex n1)] rfl rfl (encP_one _) _ (by rfl) rfl HOP10.out (Below.refl _ _) HZ10.out.1 HLEN.out ?_; intro v11 w11 ho11 hb11 hk11 hs11 _; obtain ⟨A11, c11, e11⟩ := ho11.shape; rw [List.length_append, List.length_singleton, HPL.out] at e11; subst e11; have hr11 := (hb11.block W1.heap.size HZ10.out.2).trans HRW10.out; have HR11 := Lib.hid hr11; have d6 : w11.cell? ⟨W1.heap.size, 6, none⟩ = some (.slice Ap k cp) := (by rw [cell_of_row w11 _ 6 _ _ (0, 0) hr11]; rfl); have g6 : w11.frozen? ⟨W1.heap.size, 6, none⟩ = false := (by unfold World.frozen?; rw [hr11]; rfl); have HO11 := Lib.hid ho11; have HB11 := Lib.hid hb11; have HS11 := Lib.hid hs11; have HK11 := Lib.hid hk11; clear hr11 ho11 hb11 hs11 hk11 x0 x1 x2 x3 y6)
                      have HRF : Hid ((w11.setCell ⟨W1.heap.size, 6, none⟩ (.slice A11 (k + 1) c11)).heap[W1.heap.size]? = some (.cells (tabC 0 (.slice Ar rows.length cr) (.slice Bo owners.length co) (.slice Ac (cols rows) cc) (.slice Al rows.length cl) (.slice (some aw) who.length cw) (.slice A11 (k + 1) c11) (.slice (some an) m cn)) 46 (0, 0))) := Lib.hid (row_set HR11.out 6 _)
                      have HOF : Hid (OwnOf 85 4 encP (w11.setCell ⟨W1.heap.size, 6, none⟩ (.slice A11 (k + 1) c11)) w8.heap.size (.slice A11 (k + 1) c11) (((kpsOf who (numsOf m nonces)).map Kp.pr).take (k + 1))) := Lib.hid (by
                        rw [HTK.out]
                        exact HO11.out.kept fun j e => Deep.blk_setCell_other w11 ⟨W1.heap.size, 6, none⟩ _ j (by have := (HO11.out.base_le j e).1; have := HZ10.out.2; dsimp only; omega))
                      have HICF : Hid (IntCells w8 (w11.setCell ⟨W1.heap.size, 6, none⟩ (.slice A11 (k + 1) c11))) := Lib.hid (fun b z e => by
                        have hb := cell_old e
                        have f1 := keep HB10.out (hic.out b z e)
                        have f2 := (World.cell?_of_block (w := w10) (HK11.out b.block (Nat.lt_of_lt_of_le hb HZ10.out.1) (fun h => by have := (HOP10.out.base_le _ h).1; omega))).trans f1
                        exact (World.cell?_setCell_other _ _ _ _ (fun h => by subst h; rw [d6] at f2; cases f2)).trans f2)
                      have HBF : Hid (Below w.heap.size w (w11.setCell ⟨W1.heap.size, 6, none⟩ (.slice A11 (k + 1) c11))) := Lib.hid (((hbr.out.trans (HB10.out.mono hbr.out.size)).trans (HB11.out.mono HBW8.out.size)).setCell (by have := HZ1.out; dsimp only; omega) _)
                      have HSF : Hid (w8.heap.size ≤ (w11.setCell ⟨W1.heap.size, 6, none⟩ (.slice A11 (k + 1) c11)).heap.size) := Lib.hid (by have h1 := HZ10.out.1; have h2 := HS11.out; simp [World.setCell]; omega)
                      go_roundw
                      case rel => exact ⟨k + 1, by omega, by go_num, HBF, Lib.hid ⟨_, HRF.out, HOF.out⟩, HICF, HSF⟩
                      case measure => simp [intOf]; omega
                    · obtain rfl : k = who.length := by omega
                      obtain ⟨⟨c0, c1, c2, c3, c4, c5, c6, c7⟩, f0, j0, j1, j2, j3, j4, j5, j6, j7⟩ := tab_facts HRW.out
                      have f00 := f0 0
                      have f01 := f0 1
                      have f02 := f0 2
                      have f03 := f0 3
                      have f04 := f0 4
                      have f05 := f0 5
                      have f06 := f0 6
                      have f07 := f0 7
                      clear f0 hlt hk
                      have HPS : Hid (Pairs wr (.slice Ap who.length cp) ((kpsOf who (numsOf m nonces)).map Kp.pr)) := Lib.hid (by
                        have h := HOP.out
                        rw [List.take_of_length_le (by rw [kps_len]; exact Nat.le_refl _)] at h
                        exact OwnOf.pairs h (by rw [kps_len]; omega))
                      have HIC2 := Lib.hid (IntCells.trans HIC.out hic.out)
                      go_wp2
                      refine bodyPost_ret (results_tb rfl _ _ W1.heap.size (tabC 0 (.slice Ar rows.length cr) (.slice Bo owners.length co) (.slice Ac (cols rows) cc) (.slice Al rows.length cl) (.slice Aw who.length cw) (.slice Ap who.length cp) (.slice An m cn)) (.bool true) (.bool true) rfl rfl rfl HRW.out rfl) rfl ?_
                      refine ⟨.inr ⟨HU.out, _, _, _, _, _, rfl, ?_⟩, hbr.out⟩
                      rw [HWHO.out, ← HM.out]
                      exact ⟨HR.out.below hbr.out, HO.out.below hbr.out, HC6.out.ik HIC2.out, HL6.out.ik HIC2.out, HW6.out.ik HIC2.out, HPS.out, HN6.out.ik HIC2.out⟩

end Go.Proofs.YtgacdmkhgllceaaGreatDoor
