/- codec.numeral, unsigned walked. -/
import Derived.Test.YtgacdmkhgllceaaGreatDoorZApp
import Derived.Laws.Bits64
import Derived.Lib.AppendStr
namespace Go.Proofs.YtgacdmkhgllceaaGreatDoor
open Go.RowKit

theorem wrap_u8 (n : Int) : IntKind.u8.wrap n = n % 256 := by simp [IntKind.wrap, IntKind.bits, IntKind.signed]
theorem or_128 : ∀ x : Fin 256, bits .or .u8 ((x.val : Nat) : Int) 128 = ((x.val % 128 + 128 : Nat) : Int) := by decide +kernel
/-- The first digit of a great number. -/
theorem digit_or (u : Nat) : bits .or .u8 ((u : Int) % 256) 128 = ((UInt8.ofNat (u % 128 + 128)).toNat : Int) := by
  have h := or_128 ⟨u % 256, by omega⟩
  have e : ((u % 256 : Nat) : Int) = (u : Int) % 256 := by omega
  dsimp only at h
  rw [e] at h
  rw [h]
  have : (UInt8.ofNat (u % 128 + 128)).toNat = u % 128 + 128 := by
    rw [UInt8.toNat_ofNat']; omega
  rw [this]
  omega
theorem digit_small {u : Nat} (h : u < 128) : (u : Int) % 256 = ((UInt8.ofNat u).toNat : Int) := by
  have : (UInt8.ofNat u).toNat = u := by rw [UInt8.toNat_ofNat']; omega
  rw [this]; omega

/-- What a function that appends to its argument leaves: the old row's block and new ones alone are written. -/
structure Apd (base : Nat) (w : World) (v : Value) (xs ys : List UInt8) (v' : Value) (w' : World) : Prop where
  own : OwnOf 5 1 encB w' base v' (xs ++ ys)
  low : Below base w w'
  keep : ∀ k, k < w.heap.size → v.ownBlock ≠ some k → w'.heap[k]? = w.heap[k]?
  size : w.heap.size ≤ w'.heap.size
  at_ : v'.ownBlock = v.ownBlock ∨ ∃ k, v'.ownBlock = some k ∧ w.heap.size ≤ k

theorem Apd.trans {base : Nat} {w w1 w2 : World} {v v1 v2 : Value} {xs ys zs : List UInt8} (h : Apd base w v xs ys v1 w1) (k : Apd base w1 v1 (xs ++ ys) zs v2 w2) : Apd base w v xs (ys ++ zs) v2 w2 := by
  refine ⟨by rw [← List.append_assoc]; exact k.own, h.low.trans k.low, fun j hj hne => ?_, Nat.le_trans h.size k.size, ?_⟩
  · refine (k.keep j (Nat.lt_of_lt_of_le hj h.size) fun e => ?_).trans (h.keep j hj hne)
    rcases h.at_ with q | ⟨g, q, hg⟩
    · rw [q] at e; exact hne e
    · rw [q] at e; injection e with e; omega
  · rcases k.at_ with q | ⟨g, q, hg⟩
    · rcases h.at_ with q2 | ⟨g2, q2, hg2⟩
      · exact .inl (q.trans q2)
      · exact .inr ⟨g2, q.trans q2, hg2⟩
    · exact .inr ⟨g, q, Nat.le_trans h.size hg⟩

set_option maxHeartbeats 1000000 in
theorem numeral_any (base : Nat) (v : Value) (xs : List UInt8) (u : Nat) (w : World) (ho : OwnOf 5 1 encB w base v xs) (hb : base ≤ w.heap.size) (hu : u < 18446744073709551616) (hl : xs.length + (numl u).length ≤ 140737488355328) :
    Calls Tryz.prog 209 #[v, .int .u64 u] w fun e w' => ∃ v', e = .returned v' ∧ Apd base w v xs (numl u) v' w' := by
  obtain ⟨A, c, rfl⟩ := ho.shape
  have HO := Lib.hid ho
  have HL := Lib.hid hl
  clear ho hl
  go_enter Tryz.func209, Tryz.ntmps209
  go_wp2
  go_loopw [0, 1] (fun s k wr => ∃ (n : Nat) (ys : List UInt8), k = .int .u64 n ∧ n < 18446744073709551616 ∧ Hid (ys ++ numl n = numl u) ∧ Hid (Apd base w (.slice A xs.length c) xs ys s wr)) (fun _ k _ => (intOf k).toNat)
  case atStart => exact ⟨u, [], rfl, hu, Lib.hid rfl, Lib.hid ⟨by rw [List.append_nil]; exact HO.out, Below.refl _ _, fun _ _ _ => rfl, Nat.le_refl _, .inl rfl⟩⟩
  case round =>
    obtain ⟨n, ys, rfl, hn, hys, hap⟩ := hrel
    obtain ⟨A1, c1, e1⟩ := hap.out.own.shape
    have hbase : base ≤ wr.heap.size := by have := hap.out.size; omega
    subst e1
    have hlen : Hid ((xs ++ ys).length + (numl n).length ≤ 140737488355328) := Lib.hid (by
      have h1 := HL.out
      rw [← hys.out] at h1
      simp at h1 ⊢; omega)
    by_cases hs : n < 128
    · have g : decide (128 ≤ (n : Int)) = false := decide_eq_false (by omega)
      have hn : ¬ (128 ≤ (n : Int)) := by omega
      have EN : Hid (ys ++ [UInt8.ofNat n] = numl u) := Lib.hid (by rw [← hys.out, numl_small hs])
      have ED : Hid ([Value.int .u8 (n : Int)] = encB (UInt8.ofNat n)) := Lib.hid (by
        have := digit_small hs
        show _ = [Value.int .u8 _]
        rw [← this]; congr 2; omega)
      have hl1 : Hid (((xs ++ ys).length + 1) * 1 ≤ 140737488355328) := Lib.hid (by have := hlen.out; rw [numl_small hs] at this; simpa using this)
      clear hs
      go_wp2_with (at_builtin; refine app_one (w0 := wr) base rfl _ _ 28 5 (.int .u8 0) 1 1 rfl Tryz.underlying28 info_u8 rfl (by decide) (by decide) encB _ _ (UInt8.ofNat n) (by rfl) #[.int .u8 n] ED.out rfl (by intro u hu; simp at hu; subst hu; rfl) _ (by rfl) rfl hap.out.own (Below.refl _ _) hbase hl1.out ?_; intro v1 w1 ho1 hb1 hk1 hs1 hat1)
      go_ret
      refine ⟨_, rfl, ?_⟩
      rw [← EN.out]
      exact hap.out.trans ⟨ho1, hb1, hk1, hs1, hat1⟩
    · have g : decide (128 ≤ (n : Int)) = true := decide_eq_true (by omega)
      have hn1 : 128 ≤ (n : Int) := by omega
      have EN : Hid ((ys ++ [UInt8.ofNat (n % 128 + 128)]) ++ numl (n / 128) = numl u) := Lib.hid (by rw [← hys.out, numl_great hs]; simp)
      have ED : Hid ([Value.int .u8 (bits .or .u8 ((n : Int) % 256) 128)] = encB (UInt8.ofNat (n % 128 + 128))) := Lib.hid (by rw [digit_or])
      have hl1 : Hid (((xs ++ ys).length + 1) * 1 ≤ 140737488355328) := Lib.hid (by have := hlen.out; rw [numl_great hs] at this; simp at this ⊢; omega)
      go_wp2_with (at_builtin; refine app_one (w0 := wr) base rfl _ _ 28 5 (.int .u8 0) 1 1 rfl Tryz.underlying28 info_u8 rfl (by decide) (by decide) encB _ _ (UInt8.ofNat (n % 128 + 128)) (by rfl) #[.int .u8 (bits .or .u8 ((n : Int) % 256) 128)] ED.out rfl (by intro u hu; simp at hu; subst hu; rfl) _ (by rfl) rfl hap.out.own (Below.refl _ _) hbase hl1.out ?_; intro v1 w1 ho1 hb1 hk1 hs1 hat1)
      go_roundw
      case rel => exact ⟨n / 128, ys ++ [UInt8.ofNat (n % 128 + 128)], by go_num, by omega, EN, Lib.hid (hap.out.trans ⟨ho1, hb1, hk1, hs1, hat1⟩)⟩
      case measure => simp [intOf]; omega

end Go.Proofs.YtgacdmkhgllceaaGreatDoor

/- codec.unsigned, formed, Check walked. -/
namespace Go.Proofs.YtgacdmkhgllceaaGreatDoor
open Go.RowKit

theorem unsigned_any (n : Int) (w : World) (h0 : 0 ≤ n) (h1 : n < 4611686018427387904) :
    Calls Tryz.prog 210 #[I n] w fun e w' => e = .returned (.int .u64 ((2 * n.toNat : Nat) : Int)) ∧ w = w' := by
  have E : Hid (bits .xor .u64 (n * 2) (n / 9223372036854775808) = ((2 * n.toNat : Nat) : Int)) := Lib.hid (by
    have e1 : n / 9223372036854775808 = ((0 : Nat) : Int) := by omega
    have e2 : n * 2 = ((2 * n.toNat : Nat) : Int) := by omega
    rw [e1, e2, bits_xor_u64_nat _ _ (by omega) (by decide), Nat.xor_zero])
  go_enter Tryz.func210, Tryz.ntmps210
  go_wp2
  go_ret
  exact ⟨ret_int E.out, rfl⟩

theorem two_below (w : World) (o1 o2 : Obj) : Below w.heap.size w ((w.alloc o1).alloc o2) := ((Below.refl _ w).alloc (Nat.le_refl _) _).alloc (by simp) _

theorem formed_int (n : Int) (w : World) (_h0 : 0 ≤ n) (_h1 : n < 4611686018427387904) :
    Calls Tryz.prog 207 #[.agg #[I 1, I n, strV [], .slice none 0 0]] w fun e w' => e = .returned (.tuple #[I 0, .bool true]) ∧ Below w.heap.size w w' := by
  by_cases hn : n = 0
  all_goals
    first
      | have g : (n == 0) = true := beq_iff_eq.2 hn
      | have g : (n == 0) = false := beq_eq_false_iff_ne.2 hn
    clear hn
    go_enter Tryz.func207, Tryz.ntmps207
    go_wp2
    go_ret2
    exact ⟨rfl, two_below _ _ _⟩

theorem formed_text (s : List UInt8) (w : World) (hs : s.length ≤ 140737488355328) :
    Calls Tryz.prog 207 #[.agg #[I 2, I 0, strV s, .slice none 0 0]] w fun e w' => e = .returned (.tuple #[I 0, .bool true]) ∧ Below w.heap.size w w' := by
  cases s with
  | nil =>
    go_enter Tryz.func207, Tryz.ntmps207
    go_wp2
    go_ret2
    exact ⟨rfl, two_below _ _ _⟩
  | cons b s =>
    go_enter Tryz.func207, Tryz.ntmps207
    go_wp2
    go_ret2
    exact ⟨rfl, two_below _ _ _⟩

set_option maxHeartbeats 1000000 in
theorem formed_list (l : List Val) (v : Value) (w0 w : World) (hv : ValV w0 (.list l) v) (hb : Below w0.heap.size w0 w) (hd : deps l ≤ 1000)
    (ih : ∀ i, (hi : i < l.length) → ∀ v w, ValV w0 l[i] v → Below w0.heap.size w0 w → Calls Tryz.prog 207 #[v] w fun e w' => e = .returned (.tuple #[I (dep l[i]), .bool true]) ∧ Below w.heap.size w w') :
    Calls Tryz.prog 207 #[v] w fun e w' => e = .returned (.tuple #[I (dep (.list l)), .bool true]) ∧ Below w.heap.size w w' := by
  cases hv with
  | list _ A c ks ns ss vs hl hc h =>
    have HC := Lib.hid hc
    have HH := Lib.hid h
    have HIH := Lib.hid ih
    have HB := Lib.hid hb
    clear hc h ih hb
    by_cases hn : l.length = 0
    all_goals
      first
        | have g : ((l.length : Int) == 0) = true := beq_iff_eq.2 (by omega)
        | have g : ((l.length : Int) == 0) = false := beq_eq_false_iff_ne.2 (by omega)
      clear hn
      go_enter Tryz.func207, Tryz.ntmps207
      go_wp2
      obtain ⟨W, hW⟩ : ∃ W, W = w := ⟨_, rfl⟩
      go_loopw [2, 3, 6, 7, 8, 57] (fun d o _ _ _ j wr => o = .bool false ∧ ∃ k : Nat, k ≤ l.length ∧ j = I k ∧ d = I (deps (l.take k)) ∧ Hid (Below w.heap.size w wr)) (fun _ _ _ _ _ j _ => l.length - (intOf j).toNat)
      case atStart => exact ⟨rfl, 0, Nat.zero_le _, rfl, rfl, Lib.hid (two_below _ _ _)⟩
      case round =>
        obtain ⟨rfl, k, hk, rfl, rfl, hbw⟩ := hrel
        by_cases hlt : k < l.length
        · obtain ⟨ad, e0, c1, c2, c3, c4⟩ := HC.out k hlt
          obtain ⟨k1, n1, s1, A1, m1, q1, e1, e2, e3, e4⟩ := (HH.out k hlt).elem
          have hx := HH.out k hlt
          rw [e1, e2, e3, e4] at hx
          have HX := Lib.hid hx
          have hbb : Below w0.heap.size w0 wr := HB.out.trans (hbw.out.mono HB.out.size)
          have HBB := Lib.hid hbb
          have d1 := (keep hbb c1).trans (congrArg some e1)
          have d2 := (keep hbb c2).trans (congrArg some e2)
          have d3 := (keep hbb c3).trans (congrArg some e3)
          have d4 := (keep hbb c4).trans (congrArg some e4)
          have HD := Lib.hid (deps_take hlt)
          have hdl : (deps (l.take k) : Int) ≤ 1000 := by have := deps_take_le l k; omega
          have hdk : (dep l[k] : Int) ≤ 1000 := by have := dep_le hlt; omega
          subst e0
          clear c1 c2 c3 c4 hx hbb e1 e2 e3 e4
          go_wp2_with fail
          refine (HIH.out k hlt _ _ HX.out (HBB.out.trans ((Below.refl wr.heap.size wr).alloc (Nat.le_refl _) _ |>.mono HBB.out.size))).mono ?_
          rintro e w2 ⟨rfl, hb2⟩
          have HB2 := Lib.hid (below_step hbw.out (below_step ((Below.refl wr.heap.size wr).alloc (Nat.le_refl _) _) hb2))
          clear hb2
          go_wp2
          go_roundw
          case rel => exact ⟨rfl, k + 1, by omega, by go_num, by rw [HD.out]; go_num, HB2⟩
          case measure => simp [intOf]; omega
        · obtain rfl : k = l.length := by omega
          have E : Hid (((deps l : Nat) : Int) + 1 = ((dep (.list l) : Nat) : Int)) := Lib.hid (by simp [dep])
          have hdl : (deps (l.take l.length) : Int) ≤ 1000 := by have := deps_take_le l l.length; omega
          go_wp2
          go_ret2
          exact ⟨ret_two (congrArg I E.out) rfl, hbw.out⟩

theorem formed_any (w0 : World) : ∀ (N : Nat) (x : Val), SizeOf.sizeOf x < N → dep x ≤ 1000 → ∀ v w, ValV w0 x v → Below w0.heap.size w0 w →
    Calls Tryz.prog 207 #[v] w fun e w' => e = .returned (.tuple #[I (dep x), .bool true]) ∧ Below w.heap.size w w' := by
  intro N
  induction N with
  | zero => intro x h; omega
  | succ N ih =>
    intro x hN hd v w hv hb
    cases hv with
    | int n h0 h1 => exact formed_int n w h0 h1
    | text s hs => exact formed_text s w hs
    | list l A c ks ns ss vs hl hc h =>
      have hd2 : deps l + 1 ≤ 1000 := by simpa [dep] using hd
      refine formed_list l _ w0 w (.list l A c ks ns ss vs hl hc h) hb (by omega) fun i hi v w hv hb => ?_
      refine ih l[i] ?_ ?_ v w hv hb
      · have := List.sizeOf_lt_of_mem (List.getElem_mem hi)
        simp at hN; omega
      · have := dep_le hi; omega

theorem codecCheck_any (x : Val) (v : Value) (w0 w : World) (hv : ValV w0 x v) (hb : Below w0.heap.size w0 w) (hd : dep x ≤ 16) :
    Calls Tryz.prog 183 #[v] w fun e w' => e = .returned (I 0) ∧ Below w.heap.size w w' := by
  obtain ⟨k1, n1, s1, A1, m1, q1, rfl⟩ := hv.form
  have HV := Lib.hid hv
  have HB := Lib.hid hb
  have hd2 : (dep x : Int) ≤ 16 := by omega
  have g : decide (16 < (dep x : Int)) = false := decide_eq_false (by omega)
  have g2 : decide (16 < dep x) = false := decide_eq_false (by omega)
  clear hv hb
  go_enter Tryz.func183, Tryz.ntmps183
  go_wp2_with fail
  have hba : Below w.heap.size w (w.alloc (.cells #[I k1, I n1, strV s1, .slice A1 m1 q1] 96)) := (Below.refl _ w).alloc (Nat.le_refl _) _
  refine (formed_any w0 _ x (Nat.lt_succ_self _) (by omega) _ _ HV.out (HB.out.trans (hba.mono HB.out.size))).mono ?_
  rintro e w1 ⟨rfl, hb1⟩
  have HB1 := Lib.hid (below_step hba hb1)
  clear hba hb1
  go_wp2
  go_ret
  exact ⟨rfl, HB1.out⟩

end Go.Proofs.YtgacdmkhgllceaaGreatDoor

/- append of a string to a row of bytes of the call's own, with the place of the new row. -/
namespace Go.Proofs.YtgacdmkhgllceaaGreatDoor
open Go.RowKit Go.Lib

theorem run_append_str_at {P : Program} (w : World) (base : Nat) (t u ty e : TypeId) (i : TypeInfo) (ht : P.underlying t = some (.slice e)) (hu : P.underlying u = some .string) (hi : P.info? e = some i) (hz : i.zero = some (.int .u8 0))
    (hsize : i.size = 1) (hby : i.bytes = 1)
    (v : Value) (n : Nat) (xs : List Value) (hown : w.ownsRow base e 1 v n xs) (s : ByteArray)
    (h63 : n + s.size ≤ maxLen) (hbytes : n + s.size ≤ 140737488355328) (hbase : base ≤ w.heap.size) :
    ∃ v' w', (Builtin.append_ #[t, u] ty #[v, .string s]).run P w = .ok v' w' ∧ w'.ownsRow base e 1 v' (n + s.size) (xs ++ strCells s) ∧ w.grownBy w' v.ownBlock ∧ (v'.ownBlock = v.ownBlock ∨ ∃ k, v'.ownBlock = some k ∧ w.heap.size ≤ k) := by
  obtain ⟨v', w', hr, h2, h3, _⟩ := run_append_own_string (P := P) w base t u ty e i ht hu hi hz hsize hby v n xs hown s h63 hbytes hbase
  refine ⟨v', w', hr, h2, h3, ?_⟩
  have hsmall : n + s.size ≤ 9223372036854775807 := by simp only [maxLen] at h63; omega
  have hxl : xs.length = n := by simpa using hown.1
  rcases hown.2 with ⟨rfl, rfl⟩ | ⟨g, cap, cur, rfl, hbg, hg, hnc, hcm, hcs, htake⟩
  · have hx : xs = [] := List.eq_nil_of_length_eq_zero hxl
    subst hx
    by_cases hm : s.size = 0
    · have hf := run_firstCells_string (P := P) w 1 s
      rw [hm] at hf
      have hr2 : (Builtin.append_ #[t, u] ty #[.slice none 0 0, .string s]).run P w = .ok (.slice none 0 0) w := by
        simp [Builtin.append_, run_underlying ht, run_underlying hu, sizeOf, typeInfo, hi, hsize, Builtin.lenOf, hm, hf]
      rw [hr] at hr2
      injection hr2 with e1 _
      rw [e1]; exact .inl rfl
    · have hr2 := run_append_nil_string (P := P) w t u ty e i (.int .u8 0) ht hu hi hz s (by omega) (by omega) (by rw [hby]; omega)
      rw [hr] at hr2
      injection hr2 with e1 _
      rw [e1]; exact .inr ⟨_, rfl, Nat.le_refl _⟩
  · by_cases hroom : n + s.size ≤ cap
    · have hcs' : cur.size = cap := by simpa using hcs
      have hr2 := run_append_room_string (P := P) w t u ty e i ht hu hi hsize g n cap cur hg s hroom (by omega)
      rw [hr] at hr2
      injection hr2 with e1 _
      rw [e1]; exact .inl rfl
    · have holds : ∀ j u, xs[j]? = some u → w.cell? ((⟨g, 0, none⟩ : Addr).add j) = some u := hown.cells (g := g) rfl
      have hr2 := run_append_grow_string (P := P) w t u ty e i (.int .u8 0) ht hu hi hz ⟨g, 0, none⟩ n cap xs (by rw [hsize]; simpa using hxl) holds s (by omega) (by omega) (by rw [hby]; exact growslice_fits (by omega) (by omega))
      rw [hr] at hr2
      injection hr2 with e1 _
      rw [e1]; exact .inr ⟨_, rfl, Nat.le_refl _⟩

theorem strCells_list (s : List UInt8) : strCells ⟨s.toArray⟩ = s.flatMap encB := by
  have : ∀ l : List UInt8, l.flatMap encB = l.map B8 := fun l => by
    induction l with
    | nil => rfl
    | cons b l ih => rw [List.flatMap_cons, ih]; rfl
  rw [this]
  simp [strCells]

/-- At the operation. -/
theorem app_str {P : Program} {ops : Array Oper} {rest : List Oper} {o : Oper} {a : Act} {Q : Exit → Act → World → Prop} {w : World} (base : Nat) (hgd : o.guard = none) (sl x : Operand) (t u e : TypeId)
    (ho : o.op = .call { callee := .builtin .append, args := #[sl, x], argTypes := #[t, u] })
    (ht : P.underlying t = some (.slice e)) (hu : P.underlying u = some .string) (hinfo : (P.info? e).map (fun i => (i.zero, i.size, i.bytes)) = some (some (.int .u8 0), 1, 1)) (he : e = 5)
    (v : Value) (xs s : List UInt8) (hs : a.eval sl = v) (hx : a.eval x = strV s) (HO : OwnOf e 1 encB w base v xs) (hbase : base ≤ w.heap.size) (hl : xs.length + s.length ≤ 140737488355328)
    (h : ∀ v' w', Apd base w v xs s v' w' → wpList P ops Q rest (a.put o.dst v') w') : wpList P ops Q (o :: rest) a w := by
  obtain ⟨i0, hi, hzz⟩ := Option.map_eq_some_iff.1 hinfo
  simp only [Prod.mk.injEq] at hzz
  obtain ⟨hz0, hz1, hz2⟩ := hzz
  refine wpList_plain hgd fun K hK => ?_
  have hsz : (⟨s.toArray⟩ : ByteArray).size = s.length := by show s.toArray.size = _; simp
  obtain ⟨v', w', hr, h2, h3, h4⟩ := run_append_str_at (P := P) w base t u o.type e i0 ht hu hi hz0 hz1 hz2 v xs.length (xs.flatMap encB) HO ⟨s.toArray⟩ (by rw [hsz]; simp only [maxLen]; omega) (by rw [hsz]; omega) hbase
  unfold Oper.wp execOp
  simp only [ho, resolve, invoke, builtin, Sem.run_bind, Sem.run_pure, Result.andThen_ok, List.map_toArray, List.map_cons, List.map_nil, hs, hx, hr]
  refine hK _ _ (h v' w' ⟨?_, (Below.refl base w).grown h3 hbase (fun k hk => (HO.base_le k hk).1), fun k hk hne => h3.block k hk (fun e => hne e.symm), h3.size, h4⟩)
  unfold OwnOf
  rw [hsz, strCells_list] at h2
  subst he
  rw [List.flatMap_append, List.length_append]; exact h2

end Go.Proofs.YtgacdmkhgllceaaGreatDoor
