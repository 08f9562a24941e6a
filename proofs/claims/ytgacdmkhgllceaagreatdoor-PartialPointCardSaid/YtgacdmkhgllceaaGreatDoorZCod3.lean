/- codec.newWriter and its closures, Encode walked. -/
import Derived.Test.YtgacdmkhgllceaaGreatDoorZCod1
import Derived.Test.YtgacdmkhgllceaaGreatDoorZRange
import Derived.Test.YtgacdmkhgllceaaGreatDoorZRely
import Derived.Laws.EntriesVeiled
namespace Go.Proofs.YtgacdmkhgllceaaGreatDoor
open Go.RowKit Go.Shelf

/-- The writer of values. -/
structure WriterAt (w : World) (nb c : Nat) : Prop where
  one : w.cell? ⟨nb, 1, none⟩ = some (.func (.func 208) #[] #[])
  two : w.cell? ⟨nb, 2, none⟩ = some (.func (.func 211) #[] #[])
  three : w.cell? ⟨nb, 3, none⟩ = some (.func (.func 212) #[] #[.pointer (some ⟨c, 0, none⟩)])
  cell : w.cell? ⟨c, 0, none⟩ = some (.pointer (some ⟨nb, 0, none⟩))
theorem WriterAt.below {w w' : World} {nb c : Nat} (h : WriterAt w nb c) (hb : Below w.heap.size w w') : WriterAt w' nb c := ⟨keep hb h.one, keep hb h.two, keep hb h.three, keep hb h.cell⟩

theorem newWriter_any (w : World) : Calls Tryz.prog 184 #[] w fun e w' => ∃ nb c, e = .returned (.pointer (some ⟨nb, 0, none⟩)) ∧ WriterAt w' nb c ∧ Below w.heap.size w w' := by
  go_enter Tryz.func184, Tryz.ntmps184
  go_wp2
  go_ret
  refine ⟨w.heap.size, w.heap.size + 1, rfl, ⟨?_, ?_, ?_, ?_⟩, two_below _ _ _⟩
  · exact keepA _ (by rw [World.cell?_alloc_new]; rfl)
  · exact keepA _ (by rw [World.cell?_alloc_new]; rfl)
  · exact keepA _ (by rw [World.cell?_alloc_new]; rfl)
  · exact (new_cell (w.alloc _) _ _ _ (by simp)).1

/-- The function that writes a value. -/
def wf : Val → Nat
  | .int _ => 208
  | .text _ => 211
  | .list _ => 212
def wcap : Val → Nat → Array Value
  | .list _, c => #[.pointer (some ⟨c, 0, none⟩)]
  | _, _ => #[]
/-- What it does. -/
def WriteC (x : Val) : Prop := ∀ (w0 w : World) (v xv : Value) (xs : List UInt8) (nb c : Nat), WriterAt w0 nb c → ValV w0 x xv → Below w0.heap.size w0 w → OwnOf 5 1 encB w w0.heap.size v xs → xs.length + (encVal x).length ≤ 140737488355328 →
  Calls Tryz.prog (wf x) (#[v, xv] ++ wcap x c) w fun e w' => ∃ v', e = .returned v' ∧ Apd w0.heap.size w v xs (encVal x) v' w'

theorem Apd.start {base : Nat} {w w' : World} {v : Value} {xs : List UInt8} (h : OwnOf 5 1 encB w base v xs) (hbase : base ≤ w.heap.size) (hb : Below w.heap.size w w') : Apd base w v xs [] v w' :=
  ⟨by rw [List.append_nil]; exact h.below hb, hb.mono hbase, fun k hk _ => hb.block k hk, hb.size, .inl rfl⟩
theorem Apd.trans0 {base : Nat} {w w1 w2 : World} {v v1 v2 : Value} {xs ys : List UInt8} (h : Apd base w v xs [] v1 w1) (k : Apd base w1 v1 xs ys v2 w2) : Apd base w v xs ys v2 w2 := by
  have := h.trans (zs := ys) (by rw [List.append_nil]; exact k)
  simpa using this
theorem Apd.cell {base : Nat} {w w' : World} {v v' : Value} {xs ys : List UInt8} (h : Apd base w v xs ys v' w') {a : Addr} {u : Value} (hc : w.cell? a = some u) (hne : v.ownBlock ≠ some a.block) : w'.cell? a = some u :=
  (World.cell?_of_block (w := w) (h.keep a.block (cell_old hc) hne)).trans hc
/-- A box of a byte. -/
def BoxV (b : UInt8) (v : Value) (w : World) : Prop := ∃ nb, v = .slice (some ⟨nb, 0, none⟩) 1 1 ∧ w.heap[nb]? = some (.cells #[B8 b] 5 (0, 0))

set_option maxHeartbeats 1000000 in
theorem write_int (n : Int) : WriteC (.int n) := by
  intro w0 w v xv xs nb c _ hx hb ho hl
  cases hx with
  | int _ h0 h1 =>
    obtain ⟨A, cc, rfl⟩ := ho.shape
    have HO := Lib.hid ho
    have HL := Lib.hid hl
    have HB := Lib.hid hb
    have hsz := hb.size
    clear ho hl hb
    show Calls Tryz.prog 208 #[.slice A xs.length cc, .agg #[I 1, I n, strV [], .slice none 0 0]] w _
    have hc1 : (w.alloc (.cells #[I 1, I n, strV [], .slice none 0 0] 96)).cell? ⟨w.heap.size, 1, none⟩ = some (I n) := by rw [World.cell?_alloc_new]; rfl
    have hba : Below w.heap.size w (w.alloc (.cells #[I 1, I n, strV [], .slice none 0 0] 96)) := (Below.refl _ w).alloc (Nat.le_refl _) _
    have HC1 := Lib.hid hc1
    have HBA := Lib.hid hba
    clear hc1 hba
    go_enter Tryz.func208, Tryz.ntmps208
    go_wp2
    obtain ⟨W, hW⟩ : ∃ W, w.alloc (.cells #[I 1, I n, strV [], .slice none 0 0] 96) = W := ⟨_, rfl⟩
    rw [hW] at HC1 HBA ⊢
    have hWs : w.heap.size + 1 ≤ W.heap.size := by rw [← hW]; simp
    have hc1 := HC1.out
    clear hW
    refine Rely.regionB _ _ (by kernel_rfl) [0,3,4] [1] [2,5,6,7] (fun _ v w => BoxV 1 v w) (fun w' => w'.cell? ⟨w.heap.size, 1, none⟩ = some (I n)) (by kernel_rfl) (fun w' hb => (hb.cell (cell_old hc1)).trans hc1) ?_
    (refine Rely.Fx.run ?rlc1 rfl rfl (fun _ _ => ?rlh1) ?rlk1; (case rlh1 => (go_simp; try rfl)); go_simp)
    (refine Rely.Fx.run ?rlc2 rfl rfl (fun _ _ => ?rlh2) ?rlk2; (case rlh2 => (go_simp; try rfl)); go_simp)
    (refine Rely.Fx.run ?rlc3 rfl rfl (fun _ hC => ?rlh3) ?rlk3; (case rlh3 => (have hrl := (hC : World.cell? _ _ = _); go_simp; try rfl)); go_simp)
    refine Rely.Fx.done ?_
    (refine Rely.Lt.step (o := ?rlo4) 6 ?rlho4 ?rlhd4 (by simp) ?rlh4 ?rlk4; (case rlho4 => (simp only [List.getElem?_toArray, List.getElem?_cons_succ, List.getElem?_cons_zero]; rfl)); (case rlhd4 => rfl))
    · intro w' hb hp
      go_wp2
      exact ⟨_, rfl, ⟨_, rfl, heap_alloc_new _ _⟩, hb.alloc hb.size _, Rely.Stab.one _ _ _ _⟩
    intro v2
    refine Rely.Lt.done ?_
    intro w' hb hp
    obtain ⟨nb2, rfl, hnb⟩ := hp.one
    have HST := Lib.hid (Apd.start HO.out hsz (HBA.out.trans (hb.mono HBA.out.size)))
    have hne : ∀ k, (Value.slice A xs.length cc).ownBlock = some k → k < w.heap.size := fun k hk => (HO.out.base_le k hk).2
    have hbase : w0.heap.size ≤ w'.heap.size := by have := HST.out.size; omega
    have hl1 : Hid ((xs.length + 1) * 1 ≤ 140737488355328) := Lib.hid (by have := HL.out; simp [encVal] at this; omega)
    have hl2 : Hid ((xs ++ [1]).length + (numl (2 * n.toNat)).length ≤ 140737488355328) := Lib.hid (by have := HL.out; simp [encVal] at this ⊢; omega)
    have hcw := (hb.cell (cell_old hc1)).trans hc1
    have HOW : Hid (OwnOf 5 1 encB w' w0.heap.size (.slice A xs.length cc) xs) := Lib.hid (by have := HST.out.own; rwa [List.append_nil] at this)
    clear hb hp
    (refine Rely.Tl.step (o := ?rlo5) ?rlho5 ?rlk5; (case rlho5 => (simp only [List.getElem?_toArray, List.getElem?_cons_succ, List.getElem?_cons_zero]; rfl)))
    go_wp2_with (at_builtin; go_loud (refine app_box (w0 := w') w0.heap.size rfl _ _ 28 5 (.int .u8 0) 1 1 rfl Tryz.underlying28 info_u8 rfl (by decide) (by decide) encB _ _ (1 : UInt8) (by rfl) #[B8 1] rfl rfl (by intro u hu; simp at hu; subst hu; rfl) nb2 (by rfl) hnb HOW.out (Below.refl _ _) hbase hl1.out ?_); intro v3 w3 ho3 hb3 hk3 hs3 hat3)
    have HA3 : Hid (Apd w0.heap.size w' (.slice A xs.length cc) xs [1] v3 w3) := Lib.hid ⟨ho3, hb3, hk3, hs3, hat3⟩
    have hc3 := HA3.out.cell (a := ⟨w.heap.size, 1, none⟩) hcw (fun e => by have := hne _ e; dsimp only at this; omega)
    refine ⟨rfl, hc3, ?_⟩
    obtain ⟨A3, c3, e3⟩ := ho3.shape
    rw [List.length_append, List.length_singleton] at e3
    subst e3
    have hbase3 : w0.heap.size ≤ w3.heap.size := by omega
    clear ho3 hb3 hk3 hat3 hnb
    (refine Rely.Tl.step (o := ?rlo6) ?rlho6 ?rlk6; (case rlho6 => (simp only [List.getElem?_toArray, List.getElem?_cons_succ, List.getElem?_cons_zero]; rfl)))
    go_wp2_with fail
    obtain ⟨u, hu⟩ : ∃ u, u = 2 * n.toNat := ⟨_, rfl⟩
    have huns := unsigned_any n w3 h0 h1
    have hu64 : u < 18446744073709551616 := by omega
    rw [← hu] at huns hl2
    have HU := Lib.hid hu
    clear hu
    refine huns.mono ?_
    clear huns
    rintro e w4 ⟨rfl, rfl⟩
    go_wp2
    refine ⟨rfl, hc3, ?_⟩
    (refine Rely.Tl.step (o := ?rlo7) ?rlho7 ?rlk7; (case rlho7 => (simp only [List.getElem?_toArray, List.getElem?_cons_succ, List.getElem?_cons_zero]; rfl)))
    go_wp2_with fail
    refine (numeral_any w0.heap.size _ (xs ++ [1]) u _ HA3.out.own hbase3 hu64 hl2.out).mono ?_
    rintro e w5 ⟨v5, rfl, hap⟩
    have hc5 := (HA3.out.trans hap).cell (a := ⟨w.heap.size, 1, none⟩) hcw (fun e => by have := hne _ e; dsimp only at this; omega)
    have HAP := Lib.hid (HST.out.trans0 (HA3.out.trans hap))
    clear hap
    go_wp2
    refine ⟨rfl, hc5, ?_⟩
    (refine Rely.Tl.last (o := ?rlo8) ?rlho8 ?rlk8; (case rlho8 => (simp only [List.getElem?_toArray, List.getElem?_cons_succ, List.getElem?_cons_zero]; rfl)))
    go_wp2
    refine ⟨rfl, ?_⟩
    go_wp2
    go_ret
    rw [HU.out] at HAP
    exact ⟨_, rfl, HAP.out⟩

set_option maxHeartbeats 1000000 in
theorem write_text (s : List UInt8) : WriteC (.text s) := by
  intro w0 w v xv xs nb c _ hx hb ho hl
  cases hx with
  | text _ hs0 =>
    obtain ⟨A, cc, rfl⟩ := ho.shape
    have HO := Lib.hid ho
    have HL := Lib.hid hl
    have HB := Lib.hid hb
    have hsz := hb.size
    clear ho hl hb
    show Calls Tryz.prog 211 #[.slice A xs.length cc, .agg #[I 2, I 0, strV s, .slice none 0 0]] w _
    have hc1 : (w.alloc (.cells #[I 2, I 0, strV s, .slice none 0 0] 96)).cell? ⟨w.heap.size, 2, none⟩ = some (strV s) := by rw [World.cell?_alloc_new]; rfl
    have hba : Below w.heap.size w (w.alloc (.cells #[I 2, I 0, strV s, .slice none 0 0] 96)) := (Below.refl _ w).alloc (Nat.le_refl _) _
    have HC1 := Lib.hid hc1
    have HBA := Lib.hid hba
    clear hc1 hba
    go_enter Tryz.func211, Tryz.ntmps211
    go_wp2
    obtain ⟨W, hW⟩ : ∃ W, w.alloc (.cells #[I 2, I 0, strV s, .slice none 0 0] 96) = W := ⟨_, rfl⟩
    rw [hW] at HC1 HBA ⊢
    have hWs : w.heap.size + 1 ≤ W.heap.size := by rw [← hW]; simp
    have hc1 := HC1.out
    clear hW
    refine Rely.regionB _ _ (by kernel_rfl) [0,3,4,5,6,8,9] [1] [2,7,10,11] (fun _ v w => BoxV 2 v w) (fun w' => w'.cell? ⟨w.heap.size, 2, none⟩ = some (strV s)) (by kernel_rfl) (fun w' hb => (hb.cell (cell_old hc1)).trans hc1) ?_
    (refine Rely.Fx.run ?rlc9 rfl rfl (fun _ _ => ?rlh9) ?rlk9; (case rlh9 => (go_simp; try rfl)); go_simp)
    (refine Rely.Fx.run ?rlc10 rfl rfl (fun _ _ => ?rlh10) ?rlk10; (case rlh10 => (go_simp; try rfl)); go_simp)
    (refine Rely.Fx.run ?rlc11 rfl rfl (fun _ hC => ?rlh11) ?rlk11; (case rlh11 => (have hrl := (hC : World.cell? _ _ = _); go_simp; try rfl)); go_simp)
    (refine Rely.Fx.run ?rlc12 rfl rfl (fun _ _ => ?rlh12) ?rlk12; (case rlh12 => (go_simp; try rfl)); go_simp)
    (refine Rely.Fx.run ?rlc13 rfl rfl (fun _ _ => ?rlh13) ?rlk13; (case rlh13 => (go_simp; try rfl)); go_simp)
    (refine Rely.Fx.run ?rlc14 rfl rfl (fun _ _ => ?rlh14) ?rlk14; (case rlh14 => (go_simp; try rfl)); go_simp)
    (refine Rely.Fx.run ?rlc15 rfl rfl (fun _ hC => ?rlh15) ?rlk15; (case rlh15 => (have hrl := (hC : World.cell? _ _ = _); go_simp; try rfl)); go_simp)
    refine Rely.Fx.done ?_
    (refine Rely.Lt.step (o := ?rlo16) 6 ?rlho16 ?rlhd16 (by simp) ?rlh16 ?rlk16; (case rlho16 => (simp only [List.getElem?_toArray, List.getElem?_cons_succ, List.getElem?_cons_zero]; rfl)); (case rlhd16 => rfl))
    · intro w' hb hp
      go_wp2
      exact ⟨_, rfl, ⟨_, rfl, heap_alloc_new _ _⟩, hb.alloc hb.size _, Rely.Stab.one _ _ _ _⟩
    intro v2
    refine Rely.Lt.done ?_
    intro w' hb hp
    obtain ⟨nb2, rfl, hnb⟩ := hp.one
    have HST := Lib.hid (Apd.start HO.out hsz (HBA.out.trans (hb.mono HBA.out.size)))
    have hne : ∀ k, (Value.slice A xs.length cc).ownBlock = some k → k < w.heap.size := fun k hk => (HO.out.base_le k hk).2
    have hbase : w0.heap.size ≤ w'.heap.size := by have := HST.out.size; omega
    have hl1 : Hid ((xs.length + 1) * 1 ≤ 140737488355328) := Lib.hid (by have := HL.out; simp [encVal] at this; omega)
    have hl2 : Hid ((xs ++ [2]).length + (numl s.length).length + s.length ≤ 140737488355328) := Lib.hid (by have := HL.out; simp [encVal] at this ⊢; omega)
    have hcw := (hb.cell (cell_old hc1)).trans hc1
    have HOW : Hid (OwnOf 5 1 encB w' w0.heap.size (.slice A xs.length cc) xs) := Lib.hid (by have := HST.out.own; rwa [List.append_nil] at this)
    clear hb hp
    (refine Rely.Tl.step (o := ?rlo17) ?rlho17 ?rlk17; (case rlho17 => (simp only [List.getElem?_toArray, List.getElem?_cons_succ, List.getElem?_cons_zero]; rfl)))
    go_wp2_with (at_builtin; go_loud (refine app_box (w0 := w') w0.heap.size rfl _ _ 28 5 (.int .u8 0) 1 1 rfl Tryz.underlying28 info_u8 rfl (by decide) (by decide) encB _ _ (2 : UInt8) (by rfl) #[B8 2] rfl rfl (by intro u hu; simp at hu; subst hu; rfl) nb2 (by rfl) hnb HOW.out (Below.refl _ _) hbase hl1.out ?_); intro v3 w3 ho3 hb3 hk3 hs3 hat3)
    have HA3 : Hid (Apd w0.heap.size w' (.slice A xs.length cc) xs [2] v3 w3) := Lib.hid ⟨ho3, hb3, hk3, hs3, hat3⟩
    have hc3 := HA3.out.cell (a := ⟨w.heap.size, 2, none⟩) hcw (fun e => by have := hne _ e; dsimp only at this; omega)
    refine ⟨rfl, hc3, ?_⟩
    obtain ⟨A3, c3, e3⟩ := ho3.shape
    rw [List.length_append, List.length_singleton] at e3
    subst e3
    have hbase3 : w0.heap.size ≤ w3.heap.size := by omega
    clear ho3 hb3 hk3 hat3 hnb
    (refine Rely.Tl.step (o := ?rlo18) ?rlho18 ?rlk18; (case rlho18 => (simp only [List.getElem?_toArray, List.getElem?_cons_succ, List.getElem?_cons_zero]; rfl)))
    go_wp2_with fail
    refine (numeral_any w0.heap.size _ (xs ++ [2]) s.length _ HA3.out.own hbase3 (by omega) (by have := hl2.out; omega)).mono ?_
    rintro e w5 ⟨v5, rfl, hap⟩
    have hc5 := (HA3.out.trans hap).cell (a := ⟨w.heap.size, 2, none⟩) hcw (fun e => by have := hne _ e; dsimp only at this; omega)
    obtain ⟨A5, c5, e5⟩ := hap.own.shape
    rw [List.length_append, List.length_append, List.length_singleton] at e5
    subst e5
    have HAP := Lib.hid (HA3.out.trans hap)
    have hbase5 : w0.heap.size ≤ w5.heap.size := by have := hap.size; omega
    have hl5 : Hid ((xs ++ ([2] ++ numl s.length)).length + s.length ≤ 140737488355328) := Lib.hid (by have := hl2.out; simp at this ⊢; omega)
    clear hap
    go_wp2
    refine ⟨rfl, hc5, ?_⟩
    (refine Rely.Tl.step (o := ?rlo19) ?rlho19 ?rlk19; (case rlho19 => (simp only [List.getElem?_toArray, List.getElem?_cons_succ, List.getElem?_cons_zero]; rfl)))
    go_wp2_with (at_builtin; refine app_str w0.heap.size rfl _ _ 28 9 5 rfl Tryz.underlying28 Tryz.underlying9 info_u8 rfl _ (xs ++ ([2] ++ numl s.length)) s (by rfl) (by rfl) HAP.out.own hbase5 hl5.out ?_; intro v6 w6 hap6)
    have HFIN := Lib.hid (HST.out.trans0 (HAP.out.trans hap6))
    have hc6 := (HAP.out.trans hap6).cell (a := ⟨w.heap.size, 2, none⟩) hcw (fun e => by have := hne _ e; dsimp only at this; omega)
    clear hap6
    refine ⟨rfl, hc6, ?_⟩
    (refine Rely.Tl.last (o := ?rlo20) ?rlho20 ?rlk20; (case rlho20 => (simp only [List.getElem?_toArray, List.getElem?_cons_succ, List.getElem?_cons_zero]; rfl)))
    go_wp2
    refine ⟨rfl, ?_⟩
    go_wp2
    go_ret
    refine ⟨_, rfl, ?_⟩
    have e : encVal (.text s) = [2] ++ numl s.length ++ s := by simp [encVal]
    rw [e]
    exact HFIN.out

theorem wf_enters (x : Val) : ∀ args w, (callFunc (wf x) args).run Tryz.prog w = .ok (.enter (wf x) args) w := by
  cases x with
  | int n => exact enters_of Tryz.func208 (by kernel_rfl) rfl
  | text s => exact enters_of Tryz.func211 (by kernel_rfl) rfl
  | list l => exact enters_of Tryz.func212 (by kernel_rfl) rfl

/-- The kind of a value. -/
def kd : Val → Nat
  | .int _ => 1
  | .text _ => 2
  | .list _ => 3
theorem kd_lt (x : Val) : 1 ≤ kd x ∧ kd x < 4 := by cases x <;> simp [kd]
theorem WriterAt.fn {w : World} {nb c : Nat} (h : WriterAt w nb c) (x : Val) : w.cell? ⟨nb, kd x, none⟩ = some (.func (.func (wf x)) #[] (wcap x c)) := by
  cases x with
  | int n => exact h.one
  | text s => exact h.two
  | list l => exact h.three
theorem ValV.kind {w : World} {x : Val} {v : Value} (h : ValV w x v) : ∃ (n : Int) (s : List UInt8) (A : Option Addr) (m c : Nat), v = .agg #[I (kd x), I n, strV s, .slice A m c] := by
  cases h <;> exact ⟨_, _, _, _, _, rfl⟩

set_option maxHeartbeats 2000000 in
theorem write_list (l : List Val) (ih : ∀ i, (hi : i < l.length) → WriteC l[i]) : WriteC (.list l) := by
  intro w0 w v xv xs nb c hwr hx hb ho hl
  cases hx with
  | list _ A1 c1 ks ns ss vs hll hcc hh =>
    obtain ⟨A, cc, rfl⟩ := ho.shape
    have HO := Lib.hid ho
    have HL := Lib.hid hl
    have HB := Lib.hid hb
    have HCC := Lib.hid hcc
    have HH := Lib.hid hh
    have HWR := Lib.hid hwr
    have HIH := Lib.hid ih
    have hsz := hb.size
    clear ho hl hb hcc hh hwr ih
    show Calls Tryz.prog 212 #[.slice A xs.length cc, .agg #[I 3, I 0, strV [], .slice A1 l.length c1], .pointer (some ⟨c, 0, none⟩)] w _
    have hc1 : (w.alloc (.cells #[I 3, I 0, strV [], .slice A1 l.length c1] 96)).cell? ⟨w.heap.size, 3, none⟩ = some (.slice A1 l.length c1) := by rw [World.cell?_alloc_new]; rfl
    have hba : Below w.heap.size w (w.alloc (.cells #[I 3, I 0, strV [], .slice A1 l.length c1] 96)) := (Below.refl _ w).alloc (Nat.le_refl _) _
    have HC1 := Lib.hid hc1
    have HBA := Lib.hid hba
    clear hc1 hba
    go_enter Tryz.func212, Tryz.ntmps212
    go_wp2
    obtain ⟨W, hW⟩ : ∃ W, w.alloc (.cells #[I 3, I 0, strV [], .slice A1 l.length c1] 96) = W := ⟨_, rfl⟩
    rw [hW] at HC1 HBA ⊢
    have hWs : w.heap.size + 1 ≤ W.heap.size := by rw [← hW]; simp
    have hc1 := HC1.out
    clear hW
    refine Rely.regionB _ _ (by kernel_rfl) [0,3,4,5,6] [1] [2,7,8] (fun _ v w => BoxV 3 v w) (fun w' => w'.cell? ⟨w.heap.size, 3, none⟩ = some (.slice A1 l.length c1)) (by kernel_rfl) (fun w' hb => (hb.cell (cell_old hc1)).trans hc1) ?_
    (refine Rely.Fx.run ?rlc21 rfl rfl (fun _ _ => ?rlh21) ?rlk21; (case rlh21 => (go_simp; try rfl)); go_simp)
    (refine Rely.Fx.run ?rlc22 rfl rfl (fun _ _ => ?rlh22) ?rlk22; (case rlh22 => (go_simp; try rfl)); go_simp)
    (refine Rely.Fx.run ?rlc23 rfl rfl (fun _ hC => ?rlh23) ?rlk23; (case rlh23 => (have hrl := (hC : World.cell? _ _ = _); go_simp; try rfl)); go_simp)
    (refine Rely.Fx.run ?rlc24 rfl rfl (fun _ _ => ?rlh24) ?rlk24; (case rlh24 => (go_simp; try rfl)); go_simp)
    (refine Rely.Fx.run ?rlc25 rfl rfl (fun _ _ => ?rlh25) ?rlk25; (case rlh25 => (go_simp; try rfl)); go_simp)
    refine Rely.Fx.done ?_
    (refine Rely.Lt.step (o := ?rlo26) 9 ?rlho26 ?rlhd26 (by simp) ?rlh26 ?rlk26; (case rlho26 => (simp only [List.getElem?_toArray, List.getElem?_cons_succ, List.getElem?_cons_zero]; rfl)); (case rlhd26 => rfl))
    · intro w' hb hp
      go_wp2
      exact ⟨_, rfl, ⟨_, rfl, heap_alloc_new _ _⟩, hb.alloc hb.size _, Rely.Stab.one _ _ _ _⟩
    intro v2
    refine Rely.Lt.done ?_
    intro w' hb hp
    obtain ⟨nb2, rfl, hnb⟩ := hp.one
    have HST := Lib.hid (Apd.start HO.out hsz (HBA.out.trans (hb.mono HBA.out.size)))
    have hne : ∀ k, (Value.slice A xs.length cc).ownBlock = some k → k < w.heap.size := fun k hk => (HO.out.base_le k hk).2
    have HNE := Lib.hid hne
    have hbase : w0.heap.size ≤ w'.heap.size := by have := HST.out.size; omega
    have hl0 : Hid (xs.length + (1 + ((numl l.length).length + (encVals l).length)) ≤ 140737488355328) := Lib.hid (by have := HL.out; simp [encVal] at this; omega)
    have hl1 : Hid ((xs.length + 1) * 1 ≤ 140737488355328) := Lib.hid (by have := hl0.out; omega)
    have hcw := (hb.cell (cell_old hc1)).trans hc1
    have HOW : Hid (OwnOf 5 1 encB w' w0.heap.size (.slice A xs.length cc) xs) := Lib.hid (by have := HST.out.own; rwa [List.append_nil] at this)
    clear hb hp hne
    (refine Rely.Tl.step (o := ?rlo27) ?rlho27 ?rlk27; (case rlho27 => (simp only [List.getElem?_toArray, List.getElem?_cons_succ, List.getElem?_cons_zero]; rfl)))
    go_wp2_with (at_builtin; refine app_box (w0 := w') w0.heap.size rfl _ _ 28 5 (.int .u8 0) 1 1 rfl Tryz.underlying28 info_u8 rfl (by decide) (by decide) encB _ _ (3 : UInt8) (by rfl) #[B8 3] rfl rfl (by intro u hu; simp at hu; subst hu; rfl) nb2 (by rfl) hnb HOW.out (Below.refl _ _) hbase hl1.out ?_; intro v3 w3 ho3 hb3 hk3 hs3 hat3)
    have HA3 : Hid (Apd w0.heap.size w' (.slice A xs.length cc) xs [3] v3 w3) := Lib.hid ⟨ho3, hb3, hk3, hs3, hat3⟩
    have hc3 := HA3.out.cell (a := ⟨w.heap.size, 3, none⟩) hcw (fun e => by have := HNE.out _ e; dsimp only at this; omega)
    refine ⟨rfl, hc3, ?_⟩
    obtain ⟨A3, c3, e3⟩ := ho3.shape
    rw [List.length_append, List.length_singleton] at e3
    subst e3
    have hbase3 : w0.heap.size ≤ w3.heap.size := by omega
    clear ho3 hb3 hk3 hat3 hnb
    (refine Rely.Tl.step (o := ?rlo28) ?rlho28 ?rlk28; (case rlho28 => (simp only [List.getElem?_toArray, List.getElem?_cons_succ, List.getElem?_cons_zero]; rfl)))
    go_wp2_with fail
    refine (numeral_any w0.heap.size _ (xs ++ [3]) l.length _ HA3.out.own hbase3 (by omega) (by have := hl0.out; simp; omega)).mono ?_
    rintro e w5 ⟨v5, rfl, hap⟩
    have hc5 := (HA3.out.trans hap).cell (a := ⟨w.heap.size, 3, none⟩) hcw (fun e => by have := HNE.out _ e; dsimp only at this; omega)
    have HAP := Lib.hid (HST.out.trans0 (HA3.out.trans hap))
    obtain ⟨A5, c5, e5⟩ := hap.own.shape
    rw [List.length_append, List.length_append, List.length_singleton] at e5
    subst e5
    clear hap
    go_wp2
    refine ⟨rfl, hc5, ?_⟩
    (refine Rely.Tl.last (o := ?rlo29) ?rlho29 ?rlk29; (case rlho29 => (simp only [List.getElem?_toArray, List.getElem?_cons_succ, List.getElem?_cons_zero]; rfl)))
    go_wp2
    refine ⟨rfl, ?_⟩
    go_wp2
    go_loopw [0, 7, 19] (fun b _ j wr => ∃ k : Nat, k ≤ l.length ∧ j = I k ∧ Hid (Apd w0.heap.size w (.slice A xs.length cc) xs ([3] ++ numl l.length ++ encVals (l.take k)) b wr)) (fun _ _ j _ => l.length - (intOf j).toNat)
    case atStart => exact ⟨0, Nat.zero_le _, rfl, Lib.hid (by simpa [encVals] using HAP.out)⟩
    case round =>
      obtain ⟨k, hk, rfl, hap⟩ := hrel
      by_cases hlt : k < l.length
      · obtain ⟨ad, e0, d1, d2, d3, d4⟩ := HCC.out k hlt
        obtain ⟨n1, s1, A6, m6, c6, e1⟩ := (HH.out k hlt).kind
        simp only [Value.agg.injEq, Array.mk.injEq, List.cons.injEq, and_true] at e1
        have hx := HH.out k hlt
        rw [e1.1, e1.2.1, e1.2.2.1, e1.2.2.2] at hx
        have HX := Lib.hid hx
        have hlow : Below w0.heap.size w0 wr := HB.out.trans hap.out.low
        have hwrf := (HWR.out.below hlow).fn l[k]
        have hwrc := (HWR.out.below hlow).cell
        have hkd := kd_lt l[k]
        have hen := wf_enters l[k]
        have p1 := (keep hlow d1).trans (congrArg some e1.1)
        have p2 := (keep hlow d2).trans (congrArg some e1.2.1)
        have p3 := (keep hlow d3).trans (congrArg some e1.2.2.1)
        have p4 := (keep hlow d4).trans (congrArg some e1.2.2.2)
        have HLOW := Lib.hid hlow
        have HI := Lib.hid (HIH.out k hlt)
        have HT := Lib.hid (encVals_take hlt)
        obtain ⟨A7, c7, e7⟩ := hap.out.own.shape
        have hbr : w0.heap.size ≤ wr.heap.size := by have := hap.out.size; omega
        have HL7 : Hid ((xs ++ ([3] ++ numl l.length ++ encVals (l.take k))).length + (encVal l[k]).length ≤ 140737488355328) := Lib.hid (by
          have h1 := hl0.out
          have h2 := encVals_take_le l (k + 1)
          rw [HT.out] at h2
          simp at h2 ⊢; omega)
        obtain ⟨n7, hn7⟩ : ∃ n7, n7 = (xs ++ ([3] ++ numl l.length ++ encVals (l.take k))).length := ⟨_, rfl⟩
        rw [← hn7] at e7
        subst e0 e7
        clear hn7
        clear hlow d1 d2 d3 d4 e1 hx
        go_wp2
        obtain ⟨W2, hW2⟩ : ∃ W2, wr.alloc (.cells #[I (kd l[k]), I n1, strV s1, .slice A6 m6 c6] 96) = W2 := ⟨_, rfl⟩
        have hb2 : Below wr.heap.size wr W2 := by rw [← hW2]; exact (Below.refl _ _).alloc (Nat.le_refl _) _
        have b0 : W2.cell? ⟨wr.heap.size, 0, none⟩ = some (I (kd l[k])) := by rw [← hW2, World.cell?_alloc_new]; rfl
        have b1 : W2.cell? ⟨wr.heap.size, 1, none⟩ = some (I n1) := by rw [← hW2, World.cell?_alloc_new]; rfl
        have b2 : W2.cell? ⟨wr.heap.size, 2, none⟩ = some (strV s1) := by rw [← hW2, World.cell?_alloc_new]; rfl
        have b3 : W2.cell? ⟨wr.heap.size, 3, none⟩ = some (.slice A6 m6 c6) := by rw [← hW2, World.cell?_alloc_new]; rfl
        have f0 := keep hb2 hwrf
        have f1 := keep hb2 hwrc
        rw [hW2]
        have HB2 := Lib.hid hb2
        have hk3' : 1 ≤ (kd l[k] : Int) := by omega
        have hk4' : (kd l[k] : Int) < 4 := by omega
        clear hW2 hwrf hwrc p1 p2 p3 p4 hb2
        refine Rely.regionB _ _ (by kernel_rfl) [0,1,2,3,4,5,6,7,8] [] [9,10] (fun _ _ _ => True) (fun _ => True) (by kernel_rfl) (fun _ _ => trivial) ?_
        (refine Rely.Fx.load ?rlc30 rfl (by kernel_rfl) rfl (Rely.Stab.refl _ _ _) (fun _ hb => ?rlh30) ?rlk30; (case rlh30 => (have hrl := (hb.cell (cell_old f1)).trans f1; go_simp; try rfl)); go_simp)
        (refine Rely.Fx.run ?rlc31 rfl rfl (fun _ _ => ?rlh31) ?rlk31; (case rlh31 => (go_simp; try rfl)); go_simp)
        (refine Rely.Fx.load ?rlc32 rfl (by kernel_rfl) rfl (Rely.Stab.refl _ _ _) (fun _ hb => ?rlh32) ?rlk32; (case rlh32 => (have hrl := (hb.cell (cell_old b0)).trans b0; go_simp; try rfl)); go_simp)
        (refine Rely.Fx.run ?rlc33 rfl rfl (fun _ _ => ?rlh33) ?rlk33; (case rlh33 => (go_simp; try rfl)); go_simp)
        (refine Rely.Fx.run ?rlc34 rfl rfl (fun _ _ => ?rlh34) ?rlk34; (case rlh34 => (go_simp; try rfl)); go_simp)
        (refine Rely.Fx.run ?rlc35 rfl rfl (fun _ _ => ?rlh35) ?rlk35; (case rlh35 => (go_simp; try rfl)); go_simp)
        (refine Rely.Fx.load ?rlc36 rfl (by kernel_rfl) rfl (Rely.Stab.refl _ _ _) (fun _ hb => ?rlh36) ?rlk36; (case rlh36 => (have hrl := (hb.cell (cell_old f0)).trans f0; go_simp; try rfl)); go_simp)
        (refine Rely.Fx.run ?rlc37 rfl rfl (fun _ _ => ?rlh37) ?rlk37; (case rlh37 => (go_simp; try rfl)); go_simp)
        (refine Rely.Fx.load ?rlcz rfl (by kernel_rfl) rfl (Rely.Stab.refl _ _ _) (fun _ hb => ?rlhz) ?rlkz; (case rlhz => (have hr0 := (hb.cell (cell_old b0)).trans b0; have hr1 := (hb.cell (cell_old b1)).trans b1; have hr2 := (hb.cell (cell_old b2)).trans b2; have hr3 := (hb.cell (cell_old b3)).trans b3; go_simp; try rfl)); go_simp)
        refine Rely.Fx.done ?_
        refine Rely.Lt.done ?_
        intro w' hb _
        have HS2 := Lib.hid (Apd.start hap.out.own hbr (HB2.out.trans (hb.mono HB2.out.size)))
        have HOW2 := Lib.hid ((hap.out.own.below HB2.out).below hb)
        have HLOW2 : Hid (Below w0.heap.size w0 w') := Lib.hid (HLOW.out.trans HS2.out.low)
        clear hb f0 f1 b0 b1 b2 b3
        (refine Rely.Tl.step (o := ?rlo38) ?rlho38 ?rlk38; (case rlho38 => (simp only [List.getElem?_toArray, List.getElem?_cons_succ, List.getElem?_cons_zero]; rfl)))
        go_wp2_with fail
        refine (HI.out w0 _ _ _ (xs ++ ([3] ++ numl l.length ++ encVals (l.take k))) nb c HWR.out HX.out HLOW2.out HOW2.out HL7.out).mono ?_
        rintro e w5 ⟨v5, rfl, hap5⟩
        have HN : Hid (Apd w0.heap.size w (.slice A xs.length cc) xs ([3] ++ numl l.length ++ encVals (l.take (k + 1))) v5 w5) := Lib.hid (by
          rw [HT.out, ← List.append_assoc]
          exact hap.out.trans (HS2.out.trans0 hap5))
        obtain ⟨A8, c8, e8⟩ := hap5.own.shape
        generalize (xs ++ ([3] ++ numl l.length ++ encVals (l.take k)) ++ encVal l[k]).length = n8 at e8
        subst e8
        clear hap5
        go_wp2
        refine ⟨rfl, trivial, ?_⟩
        (refine Rely.Tl.last (o := ?rlo39) ?rlho39 ?rlk39; (case rlho39 => (simp only [List.getElem?_toArray, List.getElem?_cons_succ, List.getElem?_cons_zero]; rfl)))
        go_wp2
        refine ⟨rfl, ?_⟩
        go_wp2
        go_roundw
        case rel => exact ⟨k + 1, by omega, by go_num, HN⟩
        case measure => simp [intOf]; omega
      · obtain rfl : k = l.length := by omega
        go_wp2
        go_ret
        refine ⟨_, rfl, ?_⟩
        have h := hap.out
        rw [List.take_of_length_le (Nat.le_refl _)] at h
        have e : encVal (.list l) = [3] ++ numl l.length ++ encVals l := by simp [encVal]
        rw [e]
        exact h

theorem write_any : ∀ (N : Nat) (x : Val), SizeOf.sizeOf x < N → WriteC x := by
  intro N
  induction N with
  | zero => intro x h; omega
  | succ N ih =>
    intro x hN
    cases x with
    | int n => exact write_int n
    | text s => exact write_text s
    | list l =>
      refine write_list l fun i hi => ih l[i] ?_
      have := List.sizeOf_lt_of_mem (List.getElem_mem hi)
      simp at hN; omega

end Go.Proofs.YtgacdmkhgllceaaGreatDoor
