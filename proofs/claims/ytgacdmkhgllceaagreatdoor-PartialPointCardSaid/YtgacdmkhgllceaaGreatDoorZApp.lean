/- Appending one element, of one cell or several, to a row of the call's own. Over any program. -/
import Derived.Test.YtgacdmkhgllceaaGreatDoorZHead
import Derived.Maps.AppendAt
import Derived.Deep.AppendLies
import Derived.Laws.OwnMore
import Derived.Laws.AppendOwnNone
import Derived.Maps.OwnIn
namespace Go.Proofs.YtgacdmkhgllceaaGreatDoor
open Go.RowKit

/-- A row of the call's own, its elements of sz cells each. -/
def OwnOf {α : Type} (e sz : Nat) (enc : α → List Value) (W : World) (base : Nat) (v : Value) (xs : List α) : Prop :=
  W.ownsRow base e sz v xs.length (xs.flatMap enc)

theorem OwnOf.nil {α : Type} (e sz : Nat) (enc : α → List Value) (W : World) (base : Nat) : OwnOf e sz enc W base (.slice none 0 0) [] := ⟨by simp, .inl ⟨rfl, rfl⟩⟩

theorem OwnOf.shape {α : Type} {e sz : Nat} {enc : α → List Value} {W : World} {base : Nat} {v : Value} {xs : List α} (h : OwnOf e sz enc W base v xs) : ∃ A c, v = .slice A xs.length c := by
  rcases h.2 with ⟨h1, h2⟩ | ⟨g, cap, cur, h1, _⟩
  · exact ⟨none, 0, by rw [h1, h2]⟩
  · exact ⟨_, _, h1⟩

theorem OwnOf.base_le {α : Type} {e sz : Nat} {enc : α → List Value} {W : World} {base : Nat} {v : Value} {xs : List α} (h : OwnOf e sz enc W base v xs) : ∀ k, v.ownBlock = some k → base ≤ k ∧ k < W.heap.size := by
  intro k hk
  rcases h.2 with ⟨h1, h2⟩ | ⟨g, cap, cur, h1, h2, h3, _⟩
  · rw [h1] at hk; simp [Value.ownBlock] at hk
  · rw [h1] at hk; simp [Value.ownBlock] at hk; subst hk; exact ⟨h2, (Array.getElem?_eq_some_iff.1 h3).1⟩

/-- It stays where its block does. -/
theorem OwnOf.kept {α : Type} {e sz : Nat} {enc : α → List Value} {W W' : World} {base : Nat} {v : Value} {xs : List α} (h : OwnOf e sz enc W base v xs) (hk : ∀ k, v.ownBlock = some k → W'.heap[k]? = W.heap[k]?) : OwnOf e sz enc W' base v xs := by
  refine ⟨h.1, ?_⟩
  rcases h.2 with h1 | ⟨g, cap, cur, h1, h2, h3, h4⟩
  · exact .inl h1
  · exact .inr ⟨g, cap, cur, h1, h2, (hk g (by rw [h1]; rfl)).trans h3, h4⟩

theorem OwnOf.below {α : Type} {e sz : Nat} {enc : α → List Value} {W W' : World} {base : Nat} {v : Value} {xs : List α} (h : OwnOf e sz enc W base v xs) (hb : Below W.heap.size W W') : OwnOf e sz enc W' base v xs :=
  h.kept fun k hk => hb.block k (h.base_le k hk).2
theorem OwnOf.alloc {α : Type} {e sz : Nat} {enc : α → List Value} {W : World} {base : Nat} {v : Value} {xs : List α} (h : OwnOf e sz enc W base v xs) (o : Obj) : OwnOf e sz enc (W.alloc o) base v xs :=
  h.kept fun k hk => Below.heap_alloc W o k (h.base_le k hk).2

/-- One element appended: the variadic's box holds its cells. -/
theorem app_one {α : Type} {P : Program} {ops : Array Oper} {rest : List Oper} {o : Oper} {a : Act} {Q : Exit → Act → World → Prop} {w0 W : World} (base : Nat) (hgd : o.guard = none) (s x : Operand) (t e : TypeId) (z : Value) (sz bytes : Nat)
    (ho : o.op = .call { callee := .builtin .append, args := #[s, x], argTypes := #[t, t] })
    (ht : P.underlying t = some (.slice e)) (hinfo : (P.info? e).map (fun i => (i.zero, i.size, i.bytes)) = some (some z, sz, bytes)) (hz : z.cells.size = sz) (hsz : 0 < sz) (hb0 : 0 < bytes)
    (enc : α → List Value) (v : Value) (xs : List α) (y : α) (hs : a.eval s = v) (cs : Array Value) (hcs : cs.toList = enc y) (hlen : (enc y).length = sz) (h1 : ∀ u ∈ enc y, u.oneCell' = true)
    (nb : Nat) (hx : a.eval x = .slice (some ⟨nb, 0, none⟩) 1 1) (hnb : nb = W.heap.size)
    (HO : OwnOf e sz enc W base v xs) (HB : Below base w0 W) (hbase : base ≤ W.heap.size) (hl : (xs.length + 1) * bytes ≤ 140737488355328)
    (h : ∀ v1 w1, OwnOf e sz enc w1 base v1 (xs ++ [y]) → Below base w0 w1 → (∀ k, k < W.heap.size → v.ownBlock ≠ some k → w1.heap[k]? = W.heap[k]?) → W.heap.size ≤ w1.heap.size →
      (v1.ownBlock = v.ownBlock ∨ ∃ k, v1.ownBlock = some k ∧ W.heap.size ≤ k) → wpList P ops Q rest (a.put o.dst v1) w1) :
    wpList P ops Q (o :: rest) a (W.alloc (.cells cs e)) := by
  subst hnb
  obtain ⟨i0, hi, hzz⟩ := Option.map_eq_some_iff.1 hinfo
  simp only [Prod.mk.injEq] at hzz
  obtain ⟨hz0, hz1, hz2⟩ := hzz
  have hln : xs.length + 1 ≤ 140737488355328 := Nat.le_trans (Nat.le_mul_of_pos_right _ hb0) hl
  refine wpList_append_own_at (W.alloc (.cells cs e)) hgd s x t ho base e i0 z sz bytes ht hi hz0 hz1 hz2 hz hsz v xs.length (xs.flatMap enc) hs (HO.alloc _) ⟨W.heap.size, 0, none⟩ 1 1 (enc y) hx (by omega)
    (by rw [← hcs]; exact World.news_of_block (cs := cs) (t := e) (fr := (0, 0)) (heap_alloc_new W _)) h1 (by simp only [maxLen]; omega) hl (by simp; omega) ?_
  intro v1 w1 hown hg _ hat
  refine h v1 w1 ?_ ((HB.alloc hbase _).grown hg (by simp; omega) (fun k hk => (HO.base_le k hk).1)) ?_ ?_ ?_
  · unfold OwnOf; rw [List.flatMap_append, List.length_append]; simpa using hown
  · intro k hk hne
    exact (hg.block k (by simp; omega) (fun e => hne e.symm)).trans (Below.heap_alloc W _ k hk)
  · have := hg.size; simp at this; omega
  · rcases hat with hat | hat
    · exact .inl hat
    · exact .inr ⟨_, hat, by simp⟩

/-- What is owned is read. -/
theorem OwnOf.sl {α : Type} {e sz : Nat} {enc : α → List Value} {W : World} {base : Nat} {v : Value} {xs : List α} (h : OwnOf e sz enc W base v xs) (hlen : ∀ x, (enc x).length = sz) (E : World → Addr → α → Prop)
    (hE : ∀ (a : Addr) (x : α), a.spot = none → (∀ j u, (enc x)[j]? = some u → W.cell? ⟨a.block, a.off + j, none⟩ = some u) → E W a x) (hm : xs.length ≤ 140737488355328) : Sl sz E W v xs := by
  have hmono : ∀ (l : List α) (i : Nat) (hi : i < l.length) (j : Nat) (u : Value), (enc l[i])[j]? = some u → (l.flatMap enc)[i * sz + j]? = some u := by
    intro l
    induction l with
    | nil => intro i hi; simp at hi
    | cons b l ih =>
      intro i hi j u hu
      rw [List.flatMap_cons]
      cases i with
      | zero =>
        rw [List.getElem_cons_zero] at hu
        rw [Nat.zero_mul, Nat.zero_add, List.getElem?_append_left (List.getElem?_eq_some_iff.1 hu).1]; exact hu
      | succ i =>
        rw [List.getElem_cons_succ] at hu
        rw [List.getElem?_append_right (by rw [hlen, Nat.succ_mul]; omega), hlen]
        have := ih i (by simpa using hi) j u hu
        rw [show (i + 1) * sz + j - sz = i * sz + j by rw [Nat.succ_mul]; omega]
        exact this
  rcases h.2 with ⟨h1, h2⟩ | ⟨g, cap, cur, h1, h2, h3, h4, h5, h6, h7⟩
  · exact ⟨none, 0, by rw [h1, h2], ⟨by omega, fun _ => rfl⟩, hm, fun i hi => by omega⟩
  · refine ⟨_, cap, h1, ⟨h4, fun h => by cases h⟩, hm, fun i hi => ⟨_, rfl, ?_⟩⟩
    have ha : (⟨g, 0, none⟩ : Addr).add (i * sz) = ⟨g, i * sz, none⟩ := by unfold Addr.add; split <;> simp_all
    rw [ha]
    refine hE _ _ rfl fun j u hu => ?_
    have h8 := hmono xs i hi j u hu
    rw [← h7] at h8
    have h9 : cur.toList[i * sz + j]? = some u := by
      rw [List.getElem?_take] at h8
      split at h8
      · exact h8
      · cases h8
    show W.cell? ⟨g, i * sz + j, none⟩ = some u
    rw [cell_of_row W g (i * sz + j) cur e (0, 0) h3]
    simpa using h9

/-- Of ints. -/
abbrev encI (x : Int) : List Value := [I x]
theorem OwnOf.ints {e : Nat} {W : World} {base : Nat} {v : Value} {xs : List Int} (h : OwnOf e 1 encI W base v xs) (hm : xs.length ≤ 140737488355328) : Ints W v xs :=
  h.sl (fun _ => rfl) IntE (fun a x hs hc => by
    have := hc 0 (I x) rfl
    obtain ⟨b, o, s⟩ := a
    simp at hs; subst hs
    exact this) hm

theorem flat_encI : ∀ ys : List Int, ys.flatMap encI = ys.map I
  | [] => rfl
  | y :: ys => by rw [List.flatMap_cons, flat_encI ys]; rfl

/-- A whole slice of ints appended. -/
theorem app_ints {P : Program} {ops : Array Oper} {rest : List Oper} {o : Oper} {a : Act} {Q : Exit → Act → World → Prop} {w0 W : World} (base : Nat) (hgd : o.guard = none) (s x : Operand) (t e : TypeId)
    (ho : o.op = .call { callee := .builtin .append, args := #[s, x], argTypes := #[t, t] })
    (ht : P.underlying t = some (.slice e)) (hinfo : (P.info? e).map (fun i => (i.zero, i.size, i.bytes)) = some (some (I 0), 1, 8))
    (v : Value) (xs : List Int) (hs : a.eval s = v) (u : Value) (ys : List Int) (hx : a.eval x = u) (hu : Ints W u ys)
    (HO : OwnOf e 1 encI W base v xs) (HB : Below base w0 W) (hbase : base ≤ W.heap.size) (hl : (xs.length + ys.length) * 8 ≤ 140737488355328)
    (h : ∀ v1 w1, OwnOf e 1 encI w1 base v1 (xs ++ ys) → Below base w0 w1 → (∀ k, k < W.heap.size → v.ownBlock ≠ some k → w1.heap[k]? = W.heap[k]?) → W.heap.size ≤ w1.heap.size →
      (v1.ownBlock = v.ownBlock ∨ ∃ k, v1.ownBlock = some k ∧ W.heap.size ≤ k) → wpList P ops Q rest (a.put o.dst v1) w1) :
    wpList P ops Q (o :: rest) a W := by
  obtain ⟨i0, hi, hzz⟩ := Option.map_eq_some_iff.1 hinfo
  simp only [Prod.mk.injEq] at hzz
  obtain ⟨hz0, hz1, hz2⟩ := hzz
  obtain ⟨A, c, rfl, ⟨hc1, hc2⟩, hm, he⟩ := hu
  cases A with
  | none =>
    obtain rfl := hc2 rfl
    have hy : ys = [] := List.eq_nil_of_length_eq_zero (by omega)
    subst hy
    refine wpList_append_own_none hgd s x t ho base e i0 1 ht hi v xs.length (xs.flatMap encI) hs HO hx ?_
    exact h v W (by rw [List.append_nil]; exact HO) HB (fun _ _ _ => rfl) (Nat.le_refl _) (.inl rfl)
  | some ad =>
    refine wpList_append_own_at W hgd s x t ho base e i0 (I 0) 1 8 ht hi hz0 hz1 hz2 rfl (by decide) v xs.length (xs.flatMap encI) hs HO ad ys.length c (ys.flatMap encI) hx (by rw [flat_encI]; simp)
      ?_ ?_ (by simp only [maxLen]; omega) hl hbase ?_
    · intro j u hj
      rw [flat_encI, List.getElem?_map] at hj
      obtain ⟨y, hy, rfl⟩ := Option.map_eq_some_iff.1 hj
      obtain ⟨hj2, rfl⟩ := List.getElem?_eq_some_iff.1 hy
      obtain ⟨ad', e2, e3⟩ := he j hj2
      injection e2 with e2
      subst e2
      rw [Nat.mul_one] at e3
      exact e3
    · intro u hu
      obtain ⟨y, _, hy⟩ := List.mem_flatMap.1 hu
      simp at hy; subst hy; rfl
    · intro v1 w1 hown hg _ hat
      refine h v1 w1 ?_ (HB.grown hg hbase (fun k hk => (HO.base_le k hk).1)) (fun k hk hne => hg.block k hk (fun e => hne e.symm)) hg.size ?_
      · unfold OwnOf; rw [List.flatMap_append, List.length_append]; exact hown
      · rcases hat with hat | hat
        · exact .inl hat
        · exact .inr ⟨_, hat, Nat.le_refl _⟩

end Go.Proofs.YtgacdmkhgllceaaGreatDoor

/- app_one inside a fence. -/
namespace Go.Proofs.YtgacdmkhgllceaaGreatDoor
open Go.RowKit

/-- The same inside a fence. -/
theorem app_oneIn {F : Fence} {nF : Nat} {α : Type} {P : Program} {ops : Array Oper} {rest : List Oper} {o : Oper} {a : Act} {Q : Exit → Act → World → Prop} {w0 W : World} (base : Nat) (hgd : o.guard = none) (s x : Operand) (t e : TypeId) (z : Value) (sz bytes : Nat)
    (ho : o.op = .call { callee := .builtin .append, args := #[s, x], argTypes := #[t, t] })
    (ht : P.underlying t = some (.slice e)) (hinfo : (P.info? e).map (fun i => (i.zero, i.size, i.bytes)) = some (some z, sz, bytes)) (hz : z.cells.size = sz) (hsz : 0 < sz) (hb0 : 0 < bytes)
    (enc : α → List Value) (v : Value) (xs : List α) (y : α) (hs : a.eval s = v) (cs : Array Value) (hcs : cs.toList = enc y) (hlen : (enc y).length = sz) (h1 : ∀ u ∈ enc y, u.oneCell' = true)
    (nb : Nat) (hx : a.eval x = .slice (some ⟨nb, 0, none⟩) 1 1) (hnb : nb = W.heap.size)
    (HO : OwnOf e sz enc W base v xs) (HB : Below base w0 W) (hbase : base ≤ W.heap.size) (hl : (xs.length + 1) * bytes ≤ 140737488355328)
    (h : ∀ v1 w1, OwnOf e sz enc w1 base v1 (xs ++ [y]) → Below base w0 w1 → (∀ k, k < W.heap.size → v.ownBlock ≠ some k → w1.heap[k]? = W.heap[k]?) → W.heap.size ≤ w1.heap.size →
      (v1.ownBlock = v.ownBlock ∨ ∃ k, v1.ownBlock = some k ∧ W.heap.size ≤ k) → wpListIn F nF P ops Q rest (a.put o.dst v1) w1) :
    wpListIn F nF P ops Q (o :: rest) a (W.alloc (.cells cs e)) := by
  subst hnb
  obtain ⟨i0, hi, hzz⟩ := Option.map_eq_some_iff.1 hinfo
  simp only [Prod.mk.injEq] at hzz
  obtain ⟨hz0, hz1, hz2⟩ := hzz
  have hln : xs.length + 1 ≤ 140737488355328 := Nat.le_trans (Nat.le_mul_of_pos_right _ hb0) hl
  refine wpListIn_append_own_at (W.alloc (.cells cs e)) hgd s x t ho base e i0 z sz bytes ht hi hz0 hz1 hz2 hz hsz v xs.length (xs.flatMap enc) hs (HO.alloc _) ⟨W.heap.size, 0, none⟩ 1 1 (enc y) hx (by omega)
    (by rw [← hcs]; exact World.news_of_block (cs := cs) (t := e) (fr := (0, 0)) (heap_alloc_new W _)) h1 (by simp only [maxLen]; omega) hl (by simp; omega) ?_
  intro v1 w1 hown hg _ hat
  refine h v1 w1 ?_ ((HB.alloc hbase _).grown hg (by simp; omega) (fun k hk => (HO.base_le k hk).1)) ?_ ?_ ?_
  · unfold OwnOf; rw [List.flatMap_append, List.length_append]; simpa using hown
  · intro k hk hne
    exact (hg.block k (by simp; omega) (fun e => hne e.symm)).trans (Below.heap_alloc W _ k hk)
  · have := hg.size; simp at this; omega
  · rcases hat with hat | hat
    · exact .inl hat
    · exact .inr ⟨_, hat, by simp⟩

/-- make([]T, n) inside a fence. -/
theorem make_fullIn {F : Fence} {nF : Nat} {P : Program} (w : World) {ops : Array Oper} {rest : List Oper} {o : Oper} {a : Act} {Q : Exit → Act → World → Prop}
    (hg : o.guard = none) (l c : Operand) (t : TypeId) (hop : o.op = Op.makeSlice t l c)
    (base : Nat) (e : TypeId) (i : TypeInfo) (z : Value) (size : Nat) (h1 : P.underlying t = some (.slice e)) (h2 : P.info? e = some i) (h3 : i.zero = some z) (h4 : i.size = size)
    (kl kc : IntKind) (L C : Int) (n : Nat) (hl : a.eval l = .int kl L) (hc : a.eval c = .int kc C) (hL : L = (n : Int)) (hC : C = (n : Int)) (b2 : i.bytes * n ≤ 281474976710656) (b3 : n ≤ maxLen) (b4 : base ≤ w.heap.size)
    (hK : ∀ w', w'.ownsRow base e size (.slice (some ⟨w.heap.size, 0, none⟩) n n) n (madeCells z.cells (n * size)).toList → w.grownBy w' none → wpListIn F nF P ops Q rest (a.put o.dst (.slice (some ⟨w.heap.size, 0, none⟩) n n)) w') :
    wpListIn F nF P ops Q (o :: rest) a w := by
  refine wpListIn_plain hg fun K hK' => ?_
  obtain ⟨w', hrun, r1, r2⟩ := run_make_full (P := P) w base t e i z size h1 h2 h3 h4 kl kc n b2 b3 b4
  subst hL
  subst hC
  unfold Oper.wpIn
  refine ⟨?_, ?_⟩
  · simp [Oper.about, hop]
  · rw [Oper.semAt_plain F _ _ (by rw [hop]; intro c hc'; cases hc')]
    simp [execOp, hop, hl, hc, hrun, Result.andThen]
    exact hK' _ _ (hK w' r1 r2)

/-- One element appended that lies in a block of its own already. -/
theorem app_boxIn {F : Fence} {nF : Nat} {α : Type} {P : Program} {ops : Array Oper} {rest : List Oper} {o : Oper} {a : Act} {Q : Exit → Act → World → Prop} {w0 W : World} (base : Nat) (hgd : o.guard = none) (s x : Operand) (t e : TypeId) (z : Value) (sz bytes : Nat)
    (ho : o.op = .call { callee := .builtin .append, args := #[s, x], argTypes := #[t, t] })
    (ht : P.underlying t = some (.slice e)) (hinfo : (P.info? e).map (fun i => (i.zero, i.size, i.bytes)) = some (some z, sz, bytes)) (hz : z.cells.size = sz) (hsz : 0 < sz) (hb0 : 0 < bytes)
    (enc : α → List Value) (v : Value) (xs : List α) (y : α) (hs : a.eval s = v) (cs : Array Value) (hcs : cs.toList = enc y) (hlen : (enc y).length = sz) (h1 : ∀ u ∈ enc y, u.oneCell' = true)
    (nb : Nat) (hx : a.eval x = .slice (some ⟨nb, 0, none⟩) 1 1) (hnb : W.heap[nb]? = some (.cells cs e (0, 0)))
    (HO : OwnOf e sz enc W base v xs) (HB : Below base w0 W) (hbase : base ≤ W.heap.size) (hl : (xs.length + 1) * bytes ≤ 140737488355328)
    (h : ∀ v1 w1, OwnOf e sz enc w1 base v1 (xs ++ [y]) → Below base w0 w1 → (∀ k, k < W.heap.size → v.ownBlock ≠ some k → w1.heap[k]? = W.heap[k]?) → W.heap.size ≤ w1.heap.size →
      (v1.ownBlock = v.ownBlock ∨ ∃ k, v1.ownBlock = some k ∧ W.heap.size ≤ k) → wpListIn F nF P ops Q rest (a.put o.dst v1) w1) :
    wpListIn F nF P ops Q (o :: rest) a W := by
  obtain ⟨i0, hi, hzz⟩ := Option.map_eq_some_iff.1 hinfo
  simp only [Prod.mk.injEq] at hzz
  obtain ⟨hz0, hz1, hz2⟩ := hzz
  have hln : xs.length + 1 ≤ 140737488355328 := Nat.le_trans (Nat.le_mul_of_pos_right _ hb0) hl
  refine wpListIn_append_own_at W hgd s x t ho base e i0 z sz bytes ht hi hz0 hz1 hz2 hz hsz v xs.length (xs.flatMap enc) hs HO ⟨nb, 0, none⟩ 1 1 (enc y) hx (by omega)
    (by rw [← hcs]; exact World.news_of_block (cs := cs) (t := e) (fr := (0, 0)) hnb) h1 (by simp only [maxLen]; omega) hl hbase ?_
  intro v1 w1 hown hg _ hat
  refine h v1 w1 ?_ (HB.grown hg hbase (fun k hk => (HO.base_le k hk).1)) (fun k hk hne => hg.block k hk (fun e => hne e.symm)) hg.size ?_
  · unfold OwnOf; rw [List.flatMap_append, List.length_append]; simpa using hown
  · rcases hat with hat | hat
    · exact .inl hat
    · exact .inr ⟨_, hat, Nat.le_refl _⟩

/-- The same in a plain walk. -/
theorem app_box {α : Type} {P : Program} {ops : Array Oper} {rest : List Oper} {o : Oper} {a : Act} {Q : Exit → Act → World → Prop} {w0 W : World} (base : Nat) (hgd : o.guard = none) (s x : Operand) (t e : TypeId) (z : Value) (sz bytes : Nat)
    (ho : o.op = .call { callee := .builtin .append, args := #[s, x], argTypes := #[t, t] })
    (ht : P.underlying t = some (.slice e)) (hinfo : (P.info? e).map (fun i => (i.zero, i.size, i.bytes)) = some (some z, sz, bytes)) (hz : z.cells.size = sz) (hsz : 0 < sz) (hb0 : 0 < bytes)
    (enc : α → List Value) (v : Value) (xs : List α) (y : α) (hs : a.eval s = v) (cs : Array Value) (hcs : cs.toList = enc y) (hlen : (enc y).length = sz) (h1 : ∀ u ∈ enc y, u.oneCell' = true)
    (nb : Nat) (hx : a.eval x = .slice (some ⟨nb, 0, none⟩) 1 1) (hnb : W.heap[nb]? = some (.cells cs e (0, 0)))
    (HO : OwnOf e sz enc W base v xs) (HB : Below base w0 W) (hbase : base ≤ W.heap.size) (hl : (xs.length + 1) * bytes ≤ 140737488355328)
    (h : ∀ v1 w1, OwnOf e sz enc w1 base v1 (xs ++ [y]) → Below base w0 w1 → (∀ k, k < W.heap.size → v.ownBlock ≠ some k → w1.heap[k]? = W.heap[k]?) → W.heap.size ≤ w1.heap.size →
      (v1.ownBlock = v.ownBlock ∨ ∃ k, v1.ownBlock = some k ∧ W.heap.size ≤ k) → wpList P ops Q rest (a.put o.dst v1) w1) :
    wpList P ops Q (o :: rest) a W := by
  obtain ⟨i0, hi, hzz⟩ := Option.map_eq_some_iff.1 hinfo
  simp only [Prod.mk.injEq] at hzz
  obtain ⟨hz0, hz1, hz2⟩ := hzz
  have hln : xs.length + 1 ≤ 140737488355328 := Nat.le_trans (Nat.le_mul_of_pos_right _ hb0) hl
  refine wpList_append_own_at W hgd s x t ho base e i0 z sz bytes ht hi hz0 hz1 hz2 hz hsz v xs.length (xs.flatMap enc) hs HO ⟨nb, 0, none⟩ 1 1 (enc y) hx (by omega)
    (by rw [← hcs]; exact World.news_of_block (cs := cs) (t := e) (fr := (0, 0)) hnb) h1 (by simp only [maxLen]; omega) hl hbase ?_
  intro v1 w1 hown hg _ hat
  refine h v1 w1 ?_ (HB.grown hg hbase (fun k hk => (HO.base_le k hk).1)) (fun k hk hne => hg.block k hk (fun e => hne e.symm)) hg.size ?_
  · unfold OwnOf; rw [List.flatMap_append, List.length_append]; simpa using hown
  · rcases hat with hat | hat
    · exact .inl hat
    · exact .inr ⟨_, hat, Nat.le_refl _⟩

/-- What was owned before an append is owned behind it too (read up to its length). -/
theorem run_append_keep {P : Program} (w : World) (base : Nat) (t ty e : TypeId) (i : TypeInfo) (z : Value) (size bytes : Nat) (ht : P.underlying t = some (.slice e)) (hi : P.info? e = some i) (hz : i.zero = some z)
    (hsize : i.size = size) (hby : i.bytes = bytes) (hzs : z.cells.size = size) (hsz : 0 < size)
    (v : Value) (n : Nat) (xs : List Value) (hown : w.ownsRow base e size v n xs)
    (a : Addr) (m c : Nat) (news : List Value) (hl : news.length = m * size) (hnews : ∀ j u, news[j]? = some u → w.cell? (a.add j) = some u) (h1 : ∀ u ∈ news, u.oneCell' = true)
    (h63 : n + m ≤ maxLen) (hbytes : (n + m) * bytes ≤ 140737488355328) (hbase : base ≤ w.heap.size) :
    ∃ v' w', (Builtin.append_ #[t, t] ty #[v, .slice (some a) m c]).run P w = .ok v' w' ∧ w'.ownsRow base e size v' (n + m) (xs ++ news) ∧ w.grownBy w' v.ownBlock ∧ (v'.ownBlock = v.ownBlock ∨ v'.ownBlock = some w.heap.size) ∧ w'.ownsRow base e size v n xs := by
  obtain ⟨v', w', hr, h2, h3, h4, h5⟩ := run_append_own_at (P := P) w base t ty e i z size bytes ht hi hz hsize hby hzs hsz v n xs hown a m c news hl hnews h1 h63 hbytes hbase
  refine ⟨v', w', hr, h2, h3, h5, hown.1, ?_⟩
  subst hsize
  subst hby
  rcases hown.2 with ⟨rfl, rfl⟩ | ⟨g, cap, cur, rfl, hbg, hg, hnc, hcm, hcs, htake⟩
  · exact .inl ⟨rfl, rfl⟩
  · have hsmall : n + m ≤ 9223372036854775807 := by simp only [maxLen] at h63; omega
    by_cases hroom : n + m ≤ cap
    · have hfit : n * i.size + news.length ≤ cur.size := by rw [hl, hcs, ← Nat.add_mul]; exact Nat.mul_le_mul_right _ hroom
      have hr2 := run_append_room (P := P) w t ty e i ht hi g n cap cur hg a m c news hl hnews h1 hroom hfit
      rw [hr] at hr2
      injection hr2 with _ hw
      refine .inr ⟨g, cap, _, rfl, hbg, by rw [hw]; exact setRow_heap w g cur _ e _ hg, hnc, hcm, ?_, ?_⟩
      · simp only [List.size_toArray, List.length_append, List.length_take, List.length_drop, Array.length_toList]
        omega
      · rw [htake, List.append_assoc, ← hown.1]
        exact List.take_left
    · have holds : ∀ j u, xs[j]? = some u → w.cell? ((⟨g, 0, none⟩ : Addr).add j) = some u := hown.cells (g := g) rfl
      have hr2 := run_append_grow (P := P) w t ty e i z ht hi hz ⟨g, 0, none⟩ n cap xs hown.1 holds a m c news hl hnews (by omega) (by omega) (growslice_fits (by omega) hbytes)
      rw [hr] at hr2
      injection hr2 with _ hw
      refine .inr ⟨g, cap, cur, rfl, hbg, ?_, hnc, hcm, hcs, htake⟩
      rw [hw]
      exact (Below.heap_alloc w.drew _ g (Array.getElem?_eq_some_iff.1 hg).1).trans hg

/-- app_boxIn, with the old row told too. -/
theorem app_boxKeepIn {F : Fence} {nF : Nat} {α : Type} {P : Program} {ops : Array Oper} {rest : List Oper} {o : Oper} {a : Act} {Q : Exit → Act → World → Prop} {w0 W : World} (base : Nat) (hgd : o.guard = none) (s x : Operand) (t e : TypeId) (z : Value) (sz bytes : Nat)
    (ho : o.op = .call { callee := .builtin .append, args := #[s, x], argTypes := #[t, t] })
    (ht : P.underlying t = some (.slice e)) (hinfo : (P.info? e).map (fun i => (i.zero, i.size, i.bytes)) = some (some z, sz, bytes)) (hz : z.cells.size = sz) (hsz : 0 < sz) (hb0 : 0 < bytes)
    (enc : α → List Value) (v : Value) (xs : List α) (y : α) (hs : a.eval s = v) (cs : Array Value) (hcs : cs.toList = enc y) (hlen : (enc y).length = sz) (h1 : ∀ u ∈ enc y, u.oneCell' = true)
    (nb : Nat) (hx : a.eval x = .slice (some ⟨nb, 0, none⟩) 1 1) (hnb : W.heap[nb]? = some (.cells cs e (0, 0)))
    (HO : OwnOf e sz enc W base v xs) (HB : Below base w0 W) (hbase : base ≤ W.heap.size) (hl : (xs.length + 1) * bytes ≤ 140737488355328)
    (h : ∀ v1 w1, OwnOf e sz enc w1 base v1 (xs ++ [y]) → OwnOf e sz enc w1 base v xs → Below base w0 w1 → (∀ k, k < W.heap.size → v.ownBlock ≠ some k → w1.heap[k]? = W.heap[k]?) → W.heap.size ≤ w1.heap.size →
      (v1.ownBlock = v.ownBlock ∨ ∃ k, v1.ownBlock = some k ∧ W.heap.size ≤ k) → wpListIn F nF P ops Q rest (a.put o.dst v1) w1) :
    wpListIn F nF P ops Q (o :: rest) a W := by
  obtain ⟨i0, hi, hzz⟩ := Option.map_eq_some_iff.1 hinfo
  simp only [Prod.mk.injEq] at hzz
  obtain ⟨hz0, hz1, hz2⟩ := hzz
  have hln : xs.length + 1 ≤ 140737488355328 := Nat.le_trans (Nat.le_mul_of_pos_right _ hb0) hl
  refine wpListIn_plain hgd fun K hK => ?_
  obtain ⟨v1, w1, hr, h2, h3, h4, h5⟩ := run_append_keep (P := P) W base t o.type e i0 z sz bytes ht hi hz0 hz1 hz2 hz hsz v xs.length (xs.flatMap enc) HO ⟨nb, 0, none⟩ 1 1 (enc y) (by omega)
    (by rw [← hcs]; exact World.news_of_block (cs := cs) (t := e) (fr := (0, 0)) hnb) h1 (by simp only [maxLen]; omega) hl hbase
  unfold Oper.wpIn
  refine ⟨by simp [Oper.about, ho, resolve, Target.leads, Sem.run_pure], ?_⟩
  rw [Oper.semAt_plain F _ _ (by rw [ho]; intro c hc'; cases hc')]
  simp [execOp, ho, resolve, invoke, builtin, hs, hx, hr, Result.andThen]
  refine hK _ _ (h v1 w1 ?_ h5 (HB.grown h3 hbase (fun k hk => (HO.base_le k hk).1)) (fun k hk hne => h3.block k hk (fun e => hne e.symm)) h3.size ?_)
  · unfold OwnOf; rw [List.flatMap_append, List.length_append]; simpa using h2
  · rcases h4 with hat | hat
    · exact .inl hat
    · exact .inr ⟨_, hat, Nat.le_refl _⟩

end Go.Proofs.YtgacdmkhgllceaaGreatDoor

/- Values that are encoded, as data; how they lie in memory. -/
namespace Go.Proofs.YtgacdmkhgllceaaGreatDoor
open Go.RowKit

/-- A byte. -/
abbrev B8 (b : UInt8) : Value := .int .u8 (b.toNat : Int)
abbrev encB (b : UInt8) : List Value := [B8 b]
def ByteE (w : World) (a : Addr) (b : UInt8) : Prop := w.cell? a = some (B8 b)
/-- A slice of bytes. -/
def Bytes (w : World) (v : Value) (xs : List UInt8) : Prop := Sl 1 ByteE w v xs
theorem ByteE.stays : Stays ByteE := fun _ _ _ _ h e => (h _ (cell_old e)).trans e
theorem Bytes.below {w w' : World} {v : Value} {xs : List UInt8} (e : Bytes w v xs) (h : Below w.heap.size w w') : Bytes w' v xs := Sl.stays ByteE.stays (Below.old h) e
theorem Bytes.shape {w : World} {v : Value} {xs : List UInt8} (h : Bytes w v xs) : ∃ A c, v = .slice A xs.length c ∧ xs.length ≤ 140737488355328 := by
  obtain ⟨A', c', h1, h2, h3, h4⟩ := h
  exact ⟨A', c', h1, h3⟩
theorem Bytes.at {w : World} {A : Option Addr} {n c : Nat} {xs : List UInt8} (h : Bytes w (.slice A n c) xs) (i : Nat) (hi : i < xs.length) : ∃ ad, A = some ad ∧ w.cell? (ad.add i) = some (B8 xs[i]) := by
  obtain ⟨A', c', h1, h2, h3, h4⟩ := h
  injection h1 with h1 h5 h6
  obtain ⟨ad, e1, e2⟩ := h4 i hi
  refine ⟨ad, h1.trans e1, ?_⟩
  rw [Nat.mul_one] at e2
  exact e2
theorem OwnOf.bytes {e : Nat} {W : World} {base : Nat} {v : Value} {xs : List UInt8} (h : OwnOf e 1 encB W base v xs) (hm : xs.length ≤ 140737488355328) : Bytes W v xs :=
  h.sl (fun _ => rfl) ByteE (fun a x hs hc => by
    have := hc 0 (B8 x) rfl
    obtain ⟨b, o, s⟩ := a
    simp at hs; subst hs
    exact this) hm
theorem info_u8 : (Tryz.prog.info? 5).map (fun i => (i.zero, i.size, i.bytes)) = some (some (.int .u8 0), 1, 1) := by kernel_rfl

/-- A value that is encoded. -/
inductive Val where
  | int (n : Int)
  | text (s : List UInt8)
  | list (l : List Val)

/-- The digits of a number. -/
def numl (u : Nat) : List UInt8 := if u < 128 then [UInt8.ofNat u] else UInt8.ofNat (u % 128 + 128) :: numl (u / 128)
theorem numl_small {u : Nat} (h : u < 128) : numl u = [UInt8.ofNat u] := by rw [numl, if_pos h]
theorem numl_great {u : Nat} (h : ¬ u < 128) : numl u = UInt8.ofNat (u % 128 + 128) :: numl (u / 128) := by rw [numl, if_neg h]
theorem numl_len (k : Nat) : ∀ u, u < 2 ^ (7 * (k + 1)) → (numl u).length ≤ k + 1 := by
  induction k with
  | zero => intro u h; rw [numl_small (by simpa using h)]; simp
  | succ k ih =>
    intro u h
    by_cases e : u < 128
    · rw [numl_small e]; simp
    · rw [numl_great e]
      have : 2 ^ (7 * (k + 1 + 1)) = 2 ^ (7 * (k + 1)) * 128 := by rw [show 7 * (k + 1 + 1) = 7 * (k + 1) + 7 by omega, Nat.pow_add]
      have := ih (u / 128) (by rw [Nat.div_lt_iff_lt_mul (by decide)]; omega)
      simp; omega

mutual
/-- The encoding of a value. -/
def encVal : Val → List UInt8
  | .int n => 1 :: numl (2 * n.toNat)
  | .text s => 2 :: (numl s.length ++ s)
  | .list l => 3 :: (numl l.length ++ encVals l)
def encVals : List Val → List UInt8
  | [] => []
  | x :: l => encVal x ++ encVals l
end
mutual
/-- The depth of a value. -/
def dep : Val → Nat
  | .int _ => 0
  | .text _ => 0
  | .list l => deps l + 1
def deps : List Val → Nat
  | [] => 0
  | x :: l => max (dep x) (deps l)
end
theorem encVals_append (a b : List Val) : encVals (a ++ b) = encVals a ++ encVals b := by
  induction a with
  | nil => simp [encVals]
  | cons x a ih => simp [encVals, ih]
theorem encVals_take {l : List Val} {k : Nat} (h : k < l.length) : encVals (l.take (k + 1)) = encVals (l.take k) ++ encVal l[k] := by
  rw [List.take_succ_eq_append_getElem h, encVals_append]; simp [encVals]
theorem encVals_take_le (l : List Val) (k : Nat) : (encVals (l.take k)).length ≤ (encVals l).length := by
  conv => rhs; rw [← List.take_append_drop k l, encVals_append]
  simp
theorem deps_append (a b : List Val) : deps (a ++ b) = max (deps a) (deps b) := by
  induction a with
  | nil => simp [deps]
  | cons x a ih => simp [deps, ih, Nat.max_assoc]
theorem deps_take {l : List Val} {k : Nat} (h : k < l.length) : deps (l.take (k + 1)) = max (deps (l.take k)) (dep l[k]) := by
  rw [List.take_succ_eq_append_getElem h, deps_append]; simp [deps]
theorem deps_take_le (l : List Val) (k : Nat) : deps (l.take k) ≤ deps l := by
  conv => rhs; rw [← List.take_append_drop k l, deps_append]
  omega
theorem dep_le {l : List Val} {k : Nat} (h : k < l.length) : dep l[k] ≤ deps l := by
  have := deps_take h
  have := deps_take_le l (k + 1)
  omega

/-- A string. -/
abbrev strV (s : List UInt8) : Value := .string ⟨s.toArray⟩
/-- How a value lies in memory. -/
inductive ValV (w : World) : Val → Value → Prop
  | int (n : Int) (h0 : 0 ≤ n) (h1 : n < 4611686018427387904) : ValV w (.int n) (.agg #[I 1, I n, strV [], .slice none 0 0])
  | text (s : List UInt8) (h : s.length ≤ 140737488355328) : ValV w (.text s) (.agg #[I 2, I 0, strV s, .slice none 0 0])
  | list (l : List Val) (A : Option Addr) (c : Nat) (ks ns ss vs : Nat → Value) (hl : l.length ≤ 140737488355328) (hc : ∀ i, i < l.length → ∃ ad, A = some ad ∧ w.cell? (ad.add (i * 4)) = some (ks i) ∧ w.cell? ⟨(ad.add (i * 4)).block, (ad.add (i * 4)).off + 1, none⟩ = some (ns i) ∧ w.cell? ⟨(ad.add (i * 4)).block, (ad.add (i * 4)).off + 2, none⟩ = some (ss i) ∧ w.cell? ⟨(ad.add (i * 4)).block, (ad.add (i * 4)).off + 3, none⟩ = some (vs i))
      (h : ∀ i, (hi : i < l.length) → ValV w l[i] (.agg #[ks i, ns i, ss i, vs i])) : ValV w (.list l) (.agg #[I 3, I 0, strV [], .slice A l.length c])

theorem ValV.under {w w' : World} (hb : Below w.heap.size w w') : ∀ {x : Val} {v : Value}, ValV w x v → ValV w' x v := by
  intro x v h
  induction h with
  | int n h0 h1 => exact .int n h0 h1
  | text s h => exact .text s h
  | list l A c ks ns ss vs hl hc _ ih =>
    refine .list l A c ks ns ss vs hl (fun i hi => ?_) ih
    obtain ⟨ad, e, c1, c2, c3, c4⟩ := hc i hi
    exact ⟨ad, e, (hb.cell (cell_old c1)).trans c1, (hb.cell (cell_old c2)).trans c2, (hb.cell (cell_old c3)).trans c3, (hb.cell (cell_old c4)).trans c4⟩

theorem ValV.form {w : World} {x : Val} {v : Value} (h : ValV w x v) : ∃ (k n : Int) (s : List UInt8) (A : Option Addr) (m c : Nat), v = .agg #[I k, I n, strV s, .slice A m c] := by
  cases h <;> exact ⟨_, _, _, _, _, _, rfl⟩
/-- An element, with its cells. -/
theorem ValV.elem {w : World} {x : Val} {a b c d : Value} (h : ValV w x (.agg #[a, b, c, d])) : ∃ (k n : Int) (s : List UInt8) (A : Option Addr) (m q : Nat), a = I k ∧ b = I n ∧ c = strV s ∧ d = .slice A m q := by
  obtain ⟨k, n, s, A, m, q, e⟩ := h.form
  simp only [Value.agg.injEq, Array.mk.injEq, List.cons.injEq, and_true] at e
  exact ⟨k, n, s, A, m, q, e.1, e.2.1, e.2.2.1, e.2.2.2⟩

end Go.Proofs.YtgacdmkhgllceaaGreatDoor
