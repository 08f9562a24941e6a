/- Lists of items, as they are hashed. -/
import Derived.Test.YtgacdmkhgllceaaGreatDoorZDig5
import Derived.Test.YtgacdmkhgllceaaGreatDoorZApp
import Derived.Test.YtgacdmkhgllceaaGreatDoorZCod4
import Derived.Laws.BytesArg
import Derived.Laws.IdiomStrings
namespace Go.Proofs.YtgacdmkhgllceaaGreatDoor
open Go.RowKit

/-- An item of a list that is hashed. -/
inductive Item where
  | int (n : Int)
  | bytes (s : List UInt8)
  | val (x : Val)
def Item.toVal : Item → Val
  | .int n => .int n
  | .bytes s => .text s
  | .val x => x
/-- How an item lies in memory. -/
inductive ItemV (w : World) : Item → Value → Prop
  | int (n : Int) (h0 : 0 ≤ n) (h1 : n < 4611686018427387904) : ItemV w (.int n) (.iface 3 (I n))
  | bytes (s : List UInt8) (v : Value) (h : Bytes w v s) : ItemV w (.bytes s) (.iface 28 v)
  | val (x : Val) (v : Value) (h : ValV w x v) : ItemV w (.val x) (.iface 96 v)
def ItemE (w : World) (a : Addr) (it : Item) : Prop := ∃ v, w.cell? a = some v ∧ ItemV w it v
def Items (w : World) (v : Value) (its : List Item) : Prop := Sl 1 ItemE w v its
theorem ItemV.below {w w' : World} (hb : Below w.heap.size w w') {it : Item} {v : Value} (h : ItemV w it v) : ItemV w' it v := by
  cases h with
  | int n h0 h1 => exact .int n h0 h1
  | bytes s v h => exact .bytes s v (h.below hb)
  | val x v h => exact .val x v (h.under hb)
theorem Items.shape {w : World} {v : Value} {its : List Item} (h : Items w v its) : ∃ A c, v = .slice A its.length c ∧ its.length ≤ 140737488355328 := by
  obtain ⟨A, c, h1, _, h3, _⟩ := h
  exact ⟨A, c, h1, h3⟩
theorem Items.at {w : World} {A : Option Addr} {n c : Nat} {its : List Item} (h : Items w (.slice A n c) its) (i : Nat) (hi : i < its.length) : ∃ ad v, A = some ad ∧ w.cell? (ad.add i) = some v ∧ ItemV w its[i] v := by
  obtain ⟨A', c', h1, h2, h3, h4⟩ := h
  injection h1 with h1 h5 h6
  obtain ⟨ad, e1, v, e2, e3⟩ := h4 i hi
  rw [Nat.mul_one] at e2
  exact ⟨ad, v, h1.trans e1, e2, e3⟩

set_option maxRecDepth 1000000 in
theorem ta_int (v : Value) (W : World) : (Instr.typeAssert (.iface 3 v) 20 3 true).run Tryz.prog W = .ok (.tuple #[v, .bool true]) W := by rfl
set_option maxRecDepth 1000000 in
theorem ta_bytes (v : Value) (W : World) : (Instr.typeAssert (.iface 28 v) 20 28 true).run Tryz.prog W = .ok (.tuple #[v, .bool true]) W := by rfl
set_option maxRecDepth 1000000 in
theorem ta_val (v : Value) (W : World) : (Instr.typeAssert (.iface 96 v) 20 96 true).run Tryz.prog W = .ok (.tuple #[v, .bool true]) W := by rfl
set_option maxRecDepth 1000000 in
theorem ta_bytes_int (v : Value) (W : World) : (Instr.typeAssert (.iface 28 v) 20 3 true).run Tryz.prog W = .ok (.tuple #[I 0, .bool false]) W := by rfl
set_option maxRecDepth 1000000 in
theorem ta_val_int (v : Value) (W : World) : (Instr.typeAssert (.iface 96 v) 20 3 true).run Tryz.prog W = .ok (.tuple #[I 0, .bool false]) W := by rfl
set_option maxRecDepth 1000000 in
theorem ta_val_bytes (v : Value) (W : World) : (Instr.typeAssert (.iface 96 v) 20 28 true).run Tryz.prog W = .ok (.tuple #[.slice none 0 0, .bool false]) W := by rfl
attribute [local go_sem] ta_int ta_bytes ta_val ta_bytes_int ta_val_int ta_val_bytes

theorem under_u8' : Tryz.prog.underlying 5 = some (.int .u8) := by kernel_rfl
theorem Bytes.len {w : World} {v : Value} {s : List UInt8} (h : Bytes w v s) : s.length ≤ 140737488355328 := by
  obtain ⟨A, c, _, hm⟩ := h.shape; exact hm
/-- The string that bytes are. -/
theorem conv_string {W : World} {v : Value} {s : List UInt8} (h : Bytes W v s) : (convert 28 9 v).run Tryz.prog W = .ok (strV s) W := by
  obtain ⟨A, c, rfl, ⟨h2, h3⟩, h4, h5⟩ := h
  cases A with
  | none =>
    have hc := h3 rfl
    have hs : s = [] := List.eq_nil_of_length_eq_zero (by omega)
    subst hs
    exact run_convert_bytes_nil (P := Tryz.prog) W 28 5 Tryz.underlying28 under_u8' 0 c 9 Tryz.underlying9
  | some ad =>
    exact run_convert_bytes_back (P := Tryz.prog) W 28 9 5 ad c s Tryz.underlying28 under_u8' Tryz.underlying9 (fun j hj => by
      obtain ⟨ad', e1, e2⟩ := h5 j hj
      injection e1 with e1; subst e1
      rw [Nat.mul_one] at e2; exact e2)

theorem enc_int_len {n : Int} (h : n < 4611686018427387904) : (encVal (.int n)).length ≤ 11 := by
  have := numl_len 8 (2 * n.toNat) (by have e : (2 : Nat) ^ (7 * (8 + 1)) = 9223372036854775808 := by decide
                                       rw [e]; omega)
  simp only [encVal, List.length_cons]; omega
theorem enc_text_len {s : List UInt8} (h : s.length ≤ 140737488355328) : (encVal (.text s)).length ≤ s.length + 8 := by
  have := numl_len 6 s.length (by have e : (2 : Nat) ^ (7 * (6 + 1)) = 562949953421312 := by decide
                                  rw [e]; omega)
  simp only [encVal, List.length_cons, List.length_append]; omega
theorem enc_list_len {l : List Val} (h : l.length ≤ 16000) : (encVal (.list l)).length ≤ (encVals l).length + 3 := by
  have := numl_len 1 l.length (by have e : (2 : Nat) ^ (7 * (1 + 1)) = 16384 := by decide
                                  rw [e]; omega)
  simp only [encVal, List.length_cons, List.length_append]; omega
/-- A row of items that has just been laid. -/
theorem Items.new {w : World} (vs : List Value) (its : List Item) (t : TypeId) (hl : vs.length = its.length) (hm : its.length ≤ 1000) (h : ∀ i (h1 : i < vs.length) (h2 : i < its.length), ItemV w its[i] vs[i]) :
    Items (w.alloc (.cells vs.toArray t)) (.slice (some ⟨w.heap.size, 0, none⟩) its.length its.length) its := by
  refine ⟨_, _, rfl, ⟨Nat.le_refl _, fun e => by cases e⟩, by omega, fun i hi => ⟨_, rfl, vs[i]'(by omega), ?_, (h i (by omega) hi).below ((Below.refl _ _).alloc (Nat.le_refl _) _)⟩⟩
  have hadd : (⟨w.heap.size, 0, none⟩ : Addr).add (i * 1) = ⟨w.heap.size, i, none⟩ := by unfold Addr.add; split <;> simp_all
  rw [hadd, World.cell?_alloc_new]
  simp [List.getElem?_eq_getElem (show i < vs.length by omega)]

/-- The four cells of a value. -/
structure Quad where
  a : Value
  b : Value
  c : Value
  d : Value
def Quad.agg (q : Quad) : Value := .agg #[q.a, q.b, q.c, q.d]
abbrev encQ (q : Quad) : List Value := [q.a, q.b, q.c, q.d]
theorem info_val : (Tryz.prog.info? 96).map (fun i => (i.zero, i.size, i.bytes)) = some (some (.agg #[I 0, I 0, strV [], .slice none 0 0]), 4, 56) := by kernel_rfl

theorem ValV.quad {w : World} {x : Val} {v : Value} (h : ValV w x v) : ∃ q : Quad, v = q.agg := by
  obtain ⟨k, n, s, A, m, c, rfl⟩ := h.form
  exact ⟨⟨_, _, _, _⟩, rfl⟩
/-- A list that has been put together. -/
theorem ValV.ofOwn {W : World} {base : Nat} {v : Value} {es : List Quad} (h : OwnOf 96 4 encQ W base v es) (l : List Val) (hlen : es.length = l.length) (hm : es.length ≤ 140737488355328)
    (hV : ∀ i (h1 : i < es.length) (h2 : i < l.length), ValV W l[i] es[i].agg) : ValV W (.list l) (.agg #[I 3, I 0, strV [], v]) := by
  have hs := h.sl (fun _ => rfl) (fun W a q => W.cell? a = some q.a ∧ W.cell? ⟨a.block, a.off + 1, none⟩ = some q.b ∧ W.cell? ⟨a.block, a.off + 2, none⟩ = some q.c ∧ W.cell? ⟨a.block, a.off + 3, none⟩ = some q.d)
    (fun a q hsp hc => ⟨by have := hc 0 _ rfl; obtain ⟨b, o, s⟩ := a; simp at hsp; subst hsp; exact this, hc 1 _ rfl, hc 2 _ rfl, hc 3 _ rfl⟩) hm
  obtain ⟨A, c, rfl, _, _, h4⟩ := hs
  rw [hlen]
  have hq : ∀ i, (hi : i < l.length) → (es.getD i ⟨undef, undef, undef, undef⟩) = es[i]'(by omega) := fun i hi => by
    rw [List.getD_eq_getElem?_getD, List.getElem?_eq_getElem (by omega)]; rfl
  refine .list l A c (fun i => (es.getD i ⟨undef, undef, undef, undef⟩).a) (fun i => (es.getD i ⟨undef, undef, undef, undef⟩).b) (fun i => (es.getD i ⟨undef, undef, undef, undef⟩).c) (fun i => (es.getD i ⟨undef, undef, undef, undef⟩).d) (by omega) (fun i hi => ?_) (fun i hi => ?_)
  · obtain ⟨ad, e1, e2, e3, e4, e5⟩ := h4 i (by omega)
    refine ⟨ad, e1, ?_⟩
    simp only [hq i hi]
    exact ⟨e2, e3, e4, e5⟩
  · simp only [hq i hi]
    exact hV i (by omega) hi

/-- How far a list has been put together: in the block g a value of which the last cell is a row of the call's own. -/
structure Put (w0 W : World) (g base : Nat) (l : List Val) : Prop where
  own : ∃ v es, W.heap[g]? = some (.cells #[I 3, I 0, strV [], v] 96 (0, 0)) ∧ OwnOf 96 4 encQ W base v es ∧ es.length = l.length ∧ ∀ i (h1 : i < es.length) (h2 : i < l.length), ValV w0 l[i] es[i].agg
  bel : Below w0.heap.size w0 W
  new : w0.heap.size ≤ g
  bas : g < base
  siz : base ≤ W.heap.size

theorem put_next {w0 W w3 : World} {g base : Nat} {l : List Val} {v v3 : Value} {es : List Quad} {x : Val} {q : Quad} (hnew : w0.heap.size ≤ g) (hbas : g < base) (hbel : Below w0.heap.size w0 W) (hsiz : base ≤ W.heap.size)
    (hgb : W.heap[g]? = some (.cells #[I 3, I 0, strV [], v] 96 (0, 0))) (hlen : es.length = l.length) (hV : ∀ i (h1 : i < es.length) (h2 : i < l.length), ValV w0 l[i] es[i].agg) (hq : ValV w0 x q.agg)
    (ho3 : OwnOf 96 4 encQ w3 base v3 (es ++ [q])) (hb3 : Below base W w3) : Put w0 (w3.setCell ⟨g, 3, none⟩ v3) g base (l ++ [x]) := by
  have hg3 : w3.heap[g]? = some (.cells #[I 3, I 0, strV [], v] 96 (0, 0)) := (hb3.block g hbas).trans hgb
  refine ⟨⟨v3, es ++ [q], ?_, ?_, by simp [hlen], fun i h1 h2 => ?_⟩, (hbel.trans (hb3.mono (by omega))).setCell hnew _, hnew, hbas, ?_⟩
  · rw [row_set hg3]; rfl
  · exact ho3.kept (fun k hk => Deep.blk_setCell_other w3 ⟨g, 3, none⟩ v3 k (by have := (ho3.base_le k hk).1; show k ≠ g; omega))
  · by_cases h : i < l.length
    · have h3 : i < es.length := by omega
      rw [List.getElem_append_left h, List.getElem_append_left h3]
      exact hV i h3 h
    · have e1 : i = l.length := by rw [List.length_append] at h2; simp at h2; omega
      have e2 : i = es.length := by omega
      rw [List.getElem_append_right (by omega), List.getElem_append_right (by omega)]
      simpa using hq
  · have := hb3.size; simp [World.setCell]; omega

set_option maxRecDepth 100000 in
set_option maxHeartbeats 2000000 in
theorem slist_any (v : Value) (its : List Item) (w : World) (hv : Items w v its) (hk : ∀ it ∈ its, ∀ x, it ≠ .val x) (hl : its.length ≤ 1000) (he : (encVal (.list (its.map Item.toVal))).length ≤ 70368744177664) (hd : dep (.list (its.map Item.toVal)) ≤ 16) :
    Calls Tryz.prog 79 #[v] w fun e w' => ∃ u, e = .returned u ∧ Bytes w' u (encVal (.list (its.map Item.toVal))) ∧ Below w.heap.size w w' := by
  obtain ⟨A, c, rfl, hm⟩ := hv.shape
  have HV := Lib.hid hv
  have HK := Lib.hid hk
  have HE := Lib.hid he
  have HD := Lib.hid hd
  clear hv hk he hd
  go_enter Tryz.func79, Tryz.ntmps79
  go_wp2
  obtain ⟨g, hg⟩ : ∃ g, g = w.heap.size := ⟨_, rfl⟩
  obtain ⟨W1, hW1⟩ : ∃ W1, w.alloc (.cells #[I 3, I 0, strV [], .slice none 0 0] 96) = W1 := ⟨_, rfl⟩
  have hP : Put w W1 g (g + 1) [] := by
    rw [← hW1, hg]
    exact ⟨⟨_, [], heap_alloc_new _ _, OwnOf.nil _ _ _ _ _, rfl, fun i h1 => by simp at h1⟩, (Below.refl _ _).alloc (Nat.le_refl _) _, Nat.le_refl _, Nat.lt_succ_self _, by simp⟩
  change Code.wp _ _ _ _ (w.alloc (.cells #[I 3, I 0, strV [], .slice none 0 0] 96))
  rw [hW1, ← hg]
  have HP := Lib.hid hP
  clear hP hW1 hg
  go_loopw [5, 6, 7, 13] (fun _ _ _ i wr => ∃ k : Nat, k ≤ its.length ∧ i = I k ∧ Hid (Put w wr g (g + 1) ((its.take k).map Item.toVal))) (fun _ _ _ i _ => its.length - (intOf i).toNat)
  case atStart => exact ⟨0, Nat.zero_le _, rfl, HP⟩
  case round =>
    obtain ⟨k, hk, rfl, hp⟩ := hrel
    by_cases hlt : k < its.length
    · have hlt2 : (k : Int) < its.length := by omega
      obtain ⟨ad, u, rfl, hc, hu⟩ := HV.out.at k hlt
      have hc2 := keep hp.out.bel hc
      have HTK : Hid ((its.take (k + 1)).map Item.toVal = (its.take k).map Item.toVal ++ [its[k].toVal]) := Lib.hid (by rw [List.take_succ_eq_append_getElem hlt, List.map_append]; rfl)
      have HKK := HK.out its[k] (List.getElem_mem hlt)
      obtain ⟨⟨v0, es, hgb, hown, hlen, hVV⟩, hbel, hnew, hbas, hsiz⟩ := hp.out
      obtain ⟨Av, cv, rfl⟩ := hown.shape
      have c3 : wr.cell? ⟨g, 3, none⟩ = some (.slice Av es.length cv) := by rw [cell_of_row wr g 3 _ _ (0, 0) hgb]; rfl
      generalize its[k] = it at *
      have HEL : Hid (es.length ≤ 1000) := Lib.hid (by rw [hlen, List.length_map, List.length_take]; omega)
      have HGB := Lib.hid hgb
      have HOWN := Lib.hid hown
      have HLEN := Lib.hid hlen
      have HVV := Lib.hid hVV
      have HBEL := Lib.hid hbel
      have HNEW := Lib.hid hnew
      have HBAS := Lib.hid hbas
      have HSIZ := Lib.hid hsiz
      have hp0 := hbel
      clear hgb hown hlen hVV hbel hnew hbas hsiz hp hc
      cases hu with
      | int n h0 h1 =>
        go_wp2_with (at_builtin; refine app_box (w0 := wr.alloc _) (g + 1) rfl _ _ 94 96 (.agg #[I 0, I 0, strV [], .slice none 0 0]) 4 56 rfl Tryz.underlying94 info_val rfl (by decide) (by decide) encQ _ es ⟨I 1, I n, strV [], .slice none 0 0⟩ rfl #[I 1, I n, strV [], .slice none 0 0] rfl rfl (by intro u hu; simp at hu; rcases hu with rfl | rfl | rfl | rfl <;> rfl) wr.heap.size rfl (heap_alloc_new _ _) (HOWN.out.alloc _) (Below.refl _ _) (by have := HSIZ.out; simp; omega) (by have := HEL.out; omega) ?_; intro v3 w3 ho3 hb3 hk3 hs3 hat3; obtain ⟨A3, q3, hv3⟩ := ho3.shape; rw [List.length_append, List.length_singleton] at hv3; subst hv3; have hgW := (heap_alloc_old wr (.cells #[I 1, I n, strV [], .slice none 0 0] 96) (Nat.lt_of_lt_of_le HBAS.out HSIZ.out)).trans HGB.out; have HN := Lib.hid (put_next HNEW.out HBAS.out (HBEL.out.alloc HBEL.out.size _) (by have := HSIZ.out; simp; omega) hgW HLEN.out HVV.out (.int n h0 h1) ho3 hb3); have hg3 := (hb3.block g HBAS.out).trans hgW; have d3 : w3.cell? ⟨g, 3, none⟩ = some _ := cell_of_row w3 g 3 _ _ (0, 0) hg3; have f3 : w3.frozen? ⟨g, 3, none⟩ = false := (by unfold World.frozen?; rw [hg3]; rfl); clear hgW hg3 ho3 hb3 hk3 hs3 hat3)
        go_roundw
        case rel => exact ⟨k + 1, by omega, by go_num, Lib.hid (by rw [HTK.out]; exact HN.out)⟩
        case measure => simp [intOf]; omega
      | bytes s sv hs =>
        have hcs := conv_string (hs.below hp0)
        have hm1 := hs.len
        go_wp2_with (at_builtin; refine app_box (w0 := wr.alloc _) (g + 1) rfl _ _ 94 96 (.agg #[I 0, I 0, strV [], .slice none 0 0]) 4 56 rfl Tryz.underlying94 info_val rfl (by decide) (by decide) encQ _ es ⟨I 2, I 0, strV s, .slice none 0 0⟩ rfl #[I 2, I 0, strV s, .slice none 0 0] rfl rfl (by intro u hu; simp at hu; rcases hu with rfl | rfl | rfl | rfl <;> rfl) wr.heap.size rfl (heap_alloc_new _ _) (HOWN.out.alloc _) (Below.refl _ _) (by have := HSIZ.out; simp; omega) (by have := HEL.out; omega) ?_; intro v3 w3 ho3 hb3 hk3 hs3 hat3; obtain ⟨A3, q3, hv3⟩ := ho3.shape; rw [List.length_append, List.length_singleton] at hv3; subst hv3; have hgW := (heap_alloc_old wr (.cells #[I 2, I 0, strV s, .slice none 0 0] 96) (Nat.lt_of_lt_of_le HBAS.out HSIZ.out)).trans HGB.out; have HN := Lib.hid (put_next HNEW.out HBAS.out (HBEL.out.alloc HBEL.out.size _) (by have := HSIZ.out; simp; omega) hgW HLEN.out HVV.out (.text s hm1) ho3 hb3); have hg3 := (hb3.block g HBAS.out).trans hgW; have d3 : w3.cell? ⟨g, 3, none⟩ = some _ := cell_of_row w3 g 3 _ _ (0, 0) hg3; have f3 : w3.frozen? ⟨g, 3, none⟩ = false := (by unfold World.frozen?; rw [hg3]; rfl); clear hgW hg3 ho3 hb3 hk3 hs3 hat3)
        go_roundw
        case rel => exact ⟨k + 1, by omega, by go_num, Lib.hid (by rw [HTK.out]; exact HN.out)⟩
        case measure => simp [intOf]; omega
      | val x v h => exact absurd rfl (HKK x)
    · have hke : k = its.length := by omega
      obtain ⟨⟨v0, es, hgb, hown, hlen, hVV⟩, hbel, hnew, hbas, hsiz⟩ := hp.out
      obtain ⟨Av, cv, rfl⟩ := hown.shape
      have HVL : Hid (ValV wr (.list (its.map Item.toVal)) (.agg #[I 3, I 0, strV [], .slice Av es.length cv])) := Lib.hid (by
        have h := ValV.ofOwn hown _ hlen (by rw [hlen, List.length_map, List.length_take]; omega) (fun i h1 h2 => (hVV i h1 h2).under hbel)
        rw [hke, List.take_length] at h; exact h)
      have c0 : wr.cell? ⟨g, 0, none⟩ = some (I 3) := by rw [cell_of_row wr g 0 _ _ (0, 0) hgb]; rfl
      have c1 : wr.cell? ⟨g, 1, none⟩ = some (I 0) := by rw [cell_of_row wr g 1 _ _ (0, 0) hgb]; rfl
      have c2 : wr.cell? ⟨g, 2, none⟩ = some (strV []) := by rw [cell_of_row wr g 2 _ _ (0, 0) hgb]; rfl
      have c3 : wr.cell? ⟨g, 3, none⟩ = some (.slice Av es.length cv) := by rw [cell_of_row wr g 3 _ _ (0, 0) hgb]; rfl
      have HBEL := Lib.hid hbel
      clear hgb hown hlen hVV hbel hnew hbas hsiz hp hlt hk
      subst hke
      go_wp2_with fail
      refine (encode_any _ _ wr HVL.out HD.out (Nat.le_trans HE.out (by decide))).mono ?_
      rintro e w4 ⟨vb, rfl, hvb, hb4⟩
      have HVB := Lib.hid hvb
      have HB4 : Hid (Below w.heap.size w w4) := Lib.hid (HBEL.out.trans (hb4.mono HBEL.out.size))
      clear hvb hb4
      go_wp2
      go_ret
      exact ⟨_, rfl, HVB.out, HB4.out⟩

end Go.Proofs.YtgacdmkhgllceaaGreatDoor

/- partial.list and partial.hash walked. -/
namespace Go.Proofs.YtgacdmkhgllceaaGreatDoor
open Go.RowKit
attribute [local go_sem] ta_int ta_bytes ta_val ta_bytes_int ta_val_int ta_val_bytes

theorem OwnOf.base_mono {α : Type} {e sz : Nat} {enc : α → List Value} {W : World} {b b' : Nat} {v : Value} {xs : List α} (h : OwnOf e sz enc W b v xs) (hb : b' ≤ b) : OwnOf e sz enc W b' v xs := by
  obtain ⟨h1, h2⟩ := h
  refine ⟨h1, h2.imp_right ?_⟩
  rintro ⟨g, cap, cur, a1, a2, a3⟩
  exact ⟨g, cap, cur, a1, Nat.le_trans hb a2, a3⟩
set_option maxRecDepth 1000000 in
theorem agg_val (W : World) : (isAgg 96).run Tryz.prog W = .ok true W := by rfl
set_option maxRecDepth 1000000 in
theorem size_val (W : World) : (sizeOf 96).run Tryz.prog W = .ok 4 W := by rfl
/-- A result that lies in a cell of its own. -/
theorem results_val {fn : Func} {t : Tmp} (h : fn.results = #[.cell t 96]) (tmps : Array Value) (W : World) (g : Nat) (a b c d : Value) (hp : tmps.getD t undef = .pointer (some ⟨g, 0, none⟩))
    (c0 : W.cell? ⟨g, 0, none⟩ = some a) (c1 : W.cell? ⟨g, 1, none⟩ = some b) (c2 : W.cell? ⟨g, 2, none⟩ = some c) (c3 : W.cell? ⟨g, 3, none⟩ = some d) : (results fn tmps).run Tryz.prog W = .ok (.agg #[a, b, c, d]) W := by
  have hl : (loadCells ⟨g, 0, none⟩ 4).run Tryz.prog W = .ok #[a, b, c, d] W :=
    run_loadCells_list (P := Tryz.prog) W ⟨g, 0, none⟩ [a, b, c, d] (fun j v hv => by
      have hadd : (⟨g, 0, none⟩ : Addr).add j = ⟨g, j, none⟩ := by unfold Addr.add; split <;> simp_all
      rw [hadd]
      have hj : j < 4 := (List.getElem?_eq_some_iff.1 hv).1
      have : j = 0 ∨ j = 1 ∨ j = 2 ∨ j = 3 := by omega
      rcases this with rfl | rfl | rfl | rfl <;> (injection hv with hv; subst hv; assumption))
  have hrun : (loadVar 96 ⟨g, 0, none⟩).run Tryz.prog W = .ok (.agg #[a, b, c, d]) W := by
    simp only [Go.loadVar, Sem.run_bind, agg_val, size_val, hl, Result.andThen_ok, if_true, Sem.run_pure]
  have hp' : tmps[t]?.getD undef = .pointer (some ⟨g, 0, none⟩) := by simpa using hp
  simp [results, h, hp', asAddr, hrun]

set_option maxRecDepth 100000 in
set_option maxHeartbeats 2000000 in
theorem plist_own (v : Value) (its : List Item) (w : World) (hv : Items w v its) (hl : its.length ≤ 1000) :
    Calls Tryz.prog 112 #[v] w fun e w' => ∃ u es, e = .returned (.agg #[I 3, I 0, strV [], u]) ∧ OwnOf 96 4 encQ w' w.heap.size u es ∧ es.length = its.length ∧ (∀ i (h1 : i < es.length) (h2 : i < (its.map Item.toVal).length), ValV w (its.map Item.toVal)[i] es[i].agg) ∧ Below w.heap.size w w' := by
  obtain ⟨A, c, rfl, hm⟩ := hv.shape
  have HV := Lib.hid hv
  clear hv
  go_enter Tryz.func112, Tryz.ntmps112
  go_wp2
  obtain ⟨g, hg⟩ : ∃ g, g = w.heap.size := ⟨_, rfl⟩
  obtain ⟨W1, hW1⟩ : ∃ W1, w.alloc (.cells #[I 3, I 0, strV [], .slice none 0 0] 96) = W1 := ⟨_, rfl⟩
  have hP : Put w W1 g (g + 1) [] := by
    rw [← hW1, hg]
    exact ⟨⟨_, [], heap_alloc_new _ _, OwnOf.nil _ _ _ _ _, rfl, fun i h1 => by simp at h1⟩, (Below.refl _ _).alloc (Nat.le_refl _) _, Nat.le_refl _, Nat.lt_succ_self _, by simp⟩
  change Code.wp _ _ _ _ (w.alloc (.cells #[I 3, I 0, strV [], .slice none 0 0] 96))
  rw [hW1, ← hg]
  have HP := Lib.hid hP
  clear hP hW1 hg
  go_loopw [4, 5, 6, 7, 11] (fun _ _ _ _ i wr => ∃ k : Nat, k ≤ its.length ∧ i = I k ∧ Hid (Put w wr g (g + 1) ((its.take k).map Item.toVal))) (fun _ _ _ _ i _ => its.length - (intOf i).toNat)
  case atStart => exact ⟨0, Nat.zero_le _, rfl, HP⟩
  case round =>
    obtain ⟨k, hk, rfl, hp⟩ := hrel
    by_cases hlt : k < its.length
    · have hlt2 : (k : Int) < its.length := by omega
      obtain ⟨ad, u, rfl, hc, hu⟩ := HV.out.at k hlt
      have hc2 := keep hp.out.bel hc
      have HTK : Hid ((its.take (k + 1)).map Item.toVal = (its.take k).map Item.toVal ++ [its[k].toVal]) := Lib.hid (by rw [List.take_succ_eq_append_getElem hlt, List.map_append]; rfl)
      obtain ⟨⟨v0, es, hgb, hown, hlen, hVV⟩, hbel, hnew, hbas, hsiz⟩ := hp.out
      obtain ⟨Av, cv, rfl⟩ := hown.shape
      have c3 : wr.cell? ⟨g, 3, none⟩ = some (.slice Av es.length cv) := by rw [cell_of_row wr g 3 _ _ (0, 0) hgb]; rfl
      generalize its[k] = it at *
      have HEL : Hid (es.length ≤ 1000) := Lib.hid (by rw [hlen, List.length_map, List.length_take]; omega)
      have HGB := Lib.hid hgb
      have HOWN := Lib.hid hown
      have HLEN := Lib.hid hlen
      have HVV := Lib.hid hVV
      have HBEL := Lib.hid hbel
      have HNEW := Lib.hid hnew
      have HBAS := Lib.hid hbas
      have HSIZ := Lib.hid hsiz
      have hp0 := hbel
      clear hgb hown hlen hVV hbel hnew hbas hsiz hp hc
      cases hu with
      | int n h0 h1 =>
        go_wp2_with (at_builtin; refine app_box (w0 := wr.alloc _) (g + 1) rfl _ _ 94 96 (.agg #[I 0, I 0, strV [], .slice none 0 0]) 4 56 rfl Tryz.underlying94 info_val rfl (by decide) (by decide) encQ _ es ⟨I 1, I n, strV [], .slice none 0 0⟩ rfl #[I 1, I n, strV [], .slice none 0 0] rfl rfl (by intro u hu; simp at hu; rcases hu with rfl | rfl | rfl | rfl <;> rfl) wr.heap.size rfl (heap_alloc_new _ _) (HOWN.out.alloc _) (Below.refl _ _) (by have := HSIZ.out; simp; omega) (by have := HEL.out; omega) ?_; intro v3 w3 ho3 hb3 hk3 hs3 hat3; obtain ⟨A3, q3, hv3⟩ := ho3.shape; rw [List.length_append, List.length_singleton] at hv3; subst hv3; have hgW := (heap_alloc_old wr (.cells #[I 1, I n, strV [], .slice none 0 0] 96) (Nat.lt_of_lt_of_le HBAS.out HSIZ.out)).trans HGB.out; have HN := Lib.hid (put_next HNEW.out HBAS.out (HBEL.out.alloc HBEL.out.size _) (by have := HSIZ.out; simp; omega) hgW HLEN.out HVV.out (.int n h0 h1) ho3 hb3); have hg3 := (hb3.block g HBAS.out).trans hgW; have d3 : w3.cell? ⟨g, 3, none⟩ = some _ := cell_of_row w3 g 3 _ _ (0, 0) hg3; have f3 : w3.frozen? ⟨g, 3, none⟩ = false := (by unfold World.frozen?; rw [hg3]; rfl); clear hgW hg3 ho3 hb3 hk3 hs3 hat3)
        go_roundw
        case rel => exact ⟨k + 1, by omega, by go_num, Lib.hid (by rw [HTK.out]; exact HN.out)⟩
        case measure => simp [intOf]; omega
      | bytes s sv hs =>
        have hcs := conv_string (hs.below hp0)
        have hm1 := hs.len
        go_wp2_with (at_builtin; refine app_box (w0 := wr.alloc _) (g + 1) rfl _ _ 94 96 (.agg #[I 0, I 0, strV [], .slice none 0 0]) 4 56 rfl Tryz.underlying94 info_val rfl (by decide) (by decide) encQ _ es ⟨I 2, I 0, strV s, .slice none 0 0⟩ rfl #[I 2, I 0, strV s, .slice none 0 0] rfl rfl (by intro u hu; simp at hu; rcases hu with rfl | rfl | rfl | rfl <;> rfl) wr.heap.size rfl (heap_alloc_new _ _) (HOWN.out.alloc _) (Below.refl _ _) (by have := HSIZ.out; simp; omega) (by have := HEL.out; omega) ?_; intro v3 w3 ho3 hb3 hk3 hs3 hat3; obtain ⟨A3, q3, hv3⟩ := ho3.shape; rw [List.length_append, List.length_singleton] at hv3; subst hv3; have hgW := (heap_alloc_old wr (.cells #[I 2, I 0, strV s, .slice none 0 0] 96) (Nat.lt_of_lt_of_le HBAS.out HSIZ.out)).trans HGB.out; have HN := Lib.hid (put_next HNEW.out HBAS.out (HBEL.out.alloc HBEL.out.size _) (by have := HSIZ.out; simp; omega) hgW HLEN.out HVV.out (.text s hm1) ho3 hb3); have hg3 := (hb3.block g HBAS.out).trans hgW; have d3 : w3.cell? ⟨g, 3, none⟩ = some _ := cell_of_row w3 g 3 _ _ (0, 0) hg3; have f3 : w3.frozen? ⟨g, 3, none⟩ = false := (by unfold World.frozen?; rw [hg3]; rfl); clear hgW hg3 ho3 hb3 hk3 hs3 hat3)
        go_roundw
        case rel => exact ⟨k + 1, by omega, by go_num, Lib.hid (by rw [HTK.out]; exact HN.out)⟩
        case measure => simp [intOf]; omega
      | val x v h =>
        obtain ⟨k1, n1, s1, A1, m1, q1, rfl⟩ := h.form
        have hnb2 : ((wr.alloc (.cells #[I k1, I n1, strV s1, .slice A1 m1 q1] 96)).alloc (.cells #[I k1, I n1, strV s1, .slice A1 m1 q1] 96)).heap[wr.heap.size + 1]? = some (.cells #[I k1, I n1, strV s1, .slice A1 m1 q1] 96) := by
          have h := heap_alloc_new (wr.alloc (.cells #[I k1, I n1, strV s1, .slice A1 m1 q1] 96)) (.cells #[I k1, I n1, strV s1, .slice A1 m1 q1] 96)
          have e : (wr.alloc (.cells #[I k1, I n1, strV s1, .slice A1 m1 q1] 96)).heap.size = wr.heap.size + 1 := by simp
          rw [e] at h; exact h
        have HNB := Lib.hid hnb2
        clear hnb2
        have c3q := keepA (.cells #[I k1, I n1, strV s1, .slice A1 m1 q1] 96) c3
        have HGQ := Lib.hid ((heap_alloc_old (wr.alloc (.cells #[I k1, I n1, strV s1, .slice A1 m1 q1] 96)) (.cells #[I k1, I n1, strV s1, .slice A1 m1 q1] 96) (by have := HBAS.out; have := HSIZ.out; simp; omega)).trans ((heap_alloc_old wr (.cells #[I k1, I n1, strV s1, .slice A1 m1 q1] 96) (Nat.lt_of_lt_of_le HBAS.out HSIZ.out)).trans HGB.out))
        have HBQ := Lib.hid ((HBEL.out.alloc HBEL.out.size (.cells #[I k1, I n1, strV s1, .slice A1 m1 q1] 96)).alloc (by have := HBEL.out.size; simp; omega) (.cells #[I k1, I n1, strV s1, .slice A1 m1 q1] 96))
        go_wp2_with (at_builtin; refine app_box (w0 := (wr.alloc _).alloc _) (g + 1) rfl _ _ 94 96 (.agg #[I 0, I 0, strV [], .slice none 0 0]) 4 56 rfl Tryz.underlying94 info_val rfl (by decide) (by decide) encQ _ es ⟨I k1, I n1, strV s1, .slice A1 m1 q1⟩ rfl #[I k1, I n1, strV s1, .slice A1 m1 q1] rfl rfl (by intro u hu; simp at hu; rcases hu with rfl | rfl | rfl | rfl <;> rfl) (wr.heap.size + 1) rfl HNB.out ((HOWN.out.alloc _).alloc _) (Below.refl _ _) (by have := HSIZ.out; simp; omega) (by have := HEL.out; omega) ?_; intro v3 w3 ho3 hb3 hk3 hs3 hat3; obtain ⟨A3, q3, hv3⟩ := ho3.shape; rw [List.length_append, List.length_singleton] at hv3; subst hv3; have HN := Lib.hid (put_next HNEW.out HBAS.out HBQ.out (by have := HSIZ.out; simp; omega) HGQ.out HLEN.out HVV.out h ho3 hb3); have hg3 := (hb3.block g HBAS.out).trans HGQ.out; have d3 : w3.cell? ⟨g, 3, none⟩ = some _ := cell_of_row w3 g 3 _ _ (0, 0) hg3; have f3 : w3.frozen? ⟨g, 3, none⟩ = false := (by unfold World.frozen?; rw [hg3]; rfl); clear hg3 ho3 hb3 hk3 hs3 hat3)
        go_roundw
        case rel => exact ⟨k + 1, by omega, by go_num, Lib.hid (by rw [HTK.out]; exact HN.out)⟩
        case measure => simp [intOf]; omega
    · have hke : k = its.length := by omega
      obtain ⟨⟨v0, es, hgb, hown, hlen, hVV⟩, hbel, hnew, hbas, hsiz⟩ := hp.out
      obtain ⟨Av, cv, rfl⟩ := hown.shape
      have HLE : Hid (es.length = its.length) := Lib.hid (by rw [hlen, List.length_map, List.length_take]; omega)
      have HVL : Hid (∀ i (h1 : i < es.length) (h2 : i < (its.map Item.toVal).length), ValV w (its.map Item.toVal)[i] es[i].agg) := Lib.hid (by
        rw [hke, List.take_length] at hVV; exact hVV)
      have HOW : Hid (OwnOf 96 4 encQ wr w.heap.size (.slice Av es.length cv) es) := Lib.hid (hown.base_mono (by omega))
      have c0 : wr.cell? ⟨g, 0, none⟩ = some (I 3) := by rw [cell_of_row wr g 0 _ _ (0, 0) hgb]; rfl
      have c1 : wr.cell? ⟨g, 1, none⟩ = some (I 0) := by rw [cell_of_row wr g 1 _ _ (0, 0) hgb]; rfl
      have c2 : wr.cell? ⟨g, 2, none⟩ = some (strV []) := by rw [cell_of_row wr g 2 _ _ (0, 0) hgb]; rfl
      have c3 : wr.cell? ⟨g, 3, none⟩ = some (.slice Av es.length cv) := by rw [cell_of_row wr g 3 _ _ (0, 0) hgb]; rfl
      have HBEL := Lib.hid hbel
      have f0 : ∀ i, wr.frozen? ⟨g, i, none⟩ = false := fun i => by unfold World.frozen?; rw [hgb]; rfl
      have f00 := f0 0
      have f01 := f0 1
      have f02 := f0 2
      have f03 := f0 3
      have i0 := setCell_id c0
      have i1 := setCell_id c1
      have i2 := setCell_id c2
      have i3 := setCell_id c3
      clear f0
      clear hgb hown hlen hVV hbel hnew hbas hsiz hp hlt hk
      subst hke
      go_wp2
      refine bodyPost_ret (results_val rfl _ _ g _ _ _ _ rfl c0 c1 c2 c3) rfl ?_
      exact ⟨_, es, rfl, HOW.out, HLE.out, HVL.out, HBEL.out⟩

theorem plist_any (v : Value) (its : List Item) (w : World) (hv : Items w v its) (hl : its.length ≤ 1000) :
    Calls Tryz.prog 112 #[v] w fun e w' => ∃ u, e = .returned u ∧ ValV w' (.list (its.map Item.toVal)) u ∧ Below w.heap.size w w' := by
  refine (plist_own v its w hv hl).mono ?_
  rintro e w' ⟨u, es, rfl, hown, hlen, hV, hb⟩
  exact ⟨_, rfl, ValV.ofOwn hown _ (by rw [hlen, List.length_map]) (by omega) (fun i h1 h2 => (hV i h1 h2).under hb), hb⟩

/-- partial.hash. -/
theorem phash_any (tag : List UInt8) (v : Value) (its : List Item) (w : World) (hv : Items w v its) (hg : Glob w) (hl : its.length ≤ 1000) (he : (encVal (.list (its.map Item.toVal))).length ≤ 70368744177664) (hd : dep (.list (its.map Item.toVal)) ≤ 16) (ht : tag.length ≤ 1000) :
    Calls Tryz.prog 114 #[strV tag, v] w fun e w' => e = .returned (I (hashN tag (encVal (.list (its.map Item.toVal))))) ∧ Below w.heap.size w w' := by
  have HV := Lib.hid hv
  have HE := Lib.hid he
  have HD := Lib.hid hd
  have HG := Lib.hid hg
  clear hv he hd hg
  go_enter Tryz.func114, Tryz.ntmps114
  go_wp2_with fail
  refine (plist_any v its w HV.out hl).mono ?_
  rintro e w2 ⟨u, rfl, hu, hb2⟩
  have HU := Lib.hid hu
  have HB2 := Lib.hid hb2
  clear hu hb2
  go_wp2_with fail
  refine (encode_any _ _ w2 HU.out HD.out (Nat.le_trans HE.out (by decide))).mono ?_
  rintro e w3 ⟨vb, rfl, hvb, hb3⟩
  have HVB := Lib.hid hvb
  have HB3 : Hid (Below w.heap.size w w3) := Lib.hid (HB2.out.trans (hb3.mono HB2.out.size))
  clear hvb hb3
  go_wp2_with fail
  refine (hash_any tag vb _ w3 HVB.out (HG.out.below HB3.out) ht HE.out).mono ?_
  rintro e w4 ⟨rfl, hb4⟩
  have HB4 : Hid (Below w.heap.size w w4) := Lib.hid (HB3.out.trans (hb4.mono HB3.out.size))
  clear hb4
  go_wp2
  go_ret
  exact ⟨rfl, HB4.out⟩

end Go.Proofs.YtgacdmkhgllceaaGreatDoor
