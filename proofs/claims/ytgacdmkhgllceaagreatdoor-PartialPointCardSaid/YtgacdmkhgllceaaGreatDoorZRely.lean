/- A region that draws its order: operations of one value (fs), operations whose value is told by a property (ls), and a tail in one forced order (ts). One walk serves every order. Over any program. -/
import Derived.Test.YtgacdmkhgllceaaGreatDoorZHead
import Derived.Orders
import Derived.OrdersIn
import Derived.Tactics
import Derived.TacticsIn
namespace Go.Proofs.YtgacdmkhgllceaaGreatDoor
namespace Rely
open Go.RowKit

def dstOf (ops : Array Oper) (i : Nat) : Option Tmp := (ops[i]?).bind (·.dst)
def looks (ops : Array Oper) (i : Nat) : List Tmp := ((ops[i]?).map (·.looksAt ops)).getD []
def preds (ops : Array Oper) (i : Nat) : List Nat := ((ops[i]?).map fun o => (o.after.toList.filter (Region.binds .any ·)).map (·.on)).getD []
def frame (ops : Array Oper) (v : Nat → Value) (l : List Nat) (a : Act) : Act := l.foldl (fun a i => a.put (dstOf ops i) (v i)) a

theorem put_size (a : Act) (d : Option Tmp) (v : Value) : (a.put d v).tmps.size = a.tmps.size := by cases d <;> simp [Act.put]
theorem put_defers (a : Act) (d : Option Tmp) (v : Value) : (a.put d v).defers = a.defers := by cases d <;> simp [Act.put]
theorem put_other (a : Act) (d : Option Tmp) (v : Value) (t : Tmp) (h : d ≠ some t) : (a.put d v).tmps[t]? = a.tmps[t]? := by
  cases d with
  | none => rfl
  | some d => simp [Act.put]; rw [Array.getElem?_setIfInBounds_ne (fun e => h (congrArg some e))]
theorem put_same (a : Act) (v : Value) (t : Tmp) (h : t < a.tmps.size) : (a.put (some t) v).tmps[t]? = some v := by simp [Act.put, h]

theorem frame_size (ops : Array Oper) (v : Nat → Value) : ∀ (l : List Nat) (a : Act), (frame ops v l a).tmps.size = a.tmps.size
  | [], _ => rfl
  | _ :: l, _ => (frame_size ops v l _).trans (put_size _ _ _)
theorem frame_defers (ops : Array Oper) (v : Nat → Value) : ∀ (l : List Nat) (a : Act), (frame ops v l a).defers = a.defers
  | [], _ => rfl
  | _ :: l, _ => (frame_defers ops v l _).trans (put_defers _ _ _)
theorem frame_off (ops : Array Oper) (v : Nat → Value) (t : Tmp) : ∀ (l : List Nat) (a : Act), (∀ i ∈ l, dstOf ops i ≠ some t) → (frame ops v l a).tmps[t]? = a.tmps[t]?
  | [], _, _ => rfl
  | i :: l, _, h => (frame_off ops v t l _ (fun j hj => h j (.tail _ hj))).trans (put_other _ _ _ _ (h i (.head _)))
theorem frame_on (ops : Array Oper) (v : Nat → Value) (hd : ∀ i j t, dstOf ops i = some t → dstOf ops j = some t → i = j) (i : Nat) (t : Tmp) (hi : dstOf ops i = some t) :
    ∀ (l : List Nat) (a : Act), i ∈ l → t < a.tmps.size → (frame ops v l a).tmps[t]? = some (v i)
  | [], _, h, _ => by cases h
  | j :: l, a, h, ht => by
    by_cases hl : i ∈ l
    · exact frame_on ops v hd i t hi l _ hl (by rw [put_size]; exact ht)
    · have e : i = j := by cases h with | head => rfl | tail _ h => exact absurd h hl
      subst e
      refine (frame_off ops v t l _ (fun k hk e => hl (by rw [hd i k t hi e]; exact hk))).trans ?_
      show (a.put (dstOf ops i) (v i)).tmps[t]? = _
      rw [hi]; exact put_same _ _ _ ht
theorem frame_app (ops : Array Oper) (v : Nat → Value) (l l' : List Nat) (a : Act) : frame ops v (l ++ l') a = frame ops v l' (frame ops v l a) := by simp [frame]
theorem frame_congr (ops : Array Oper) {v v' : Nat → Value} : ∀ (l : List Nat) (a : Act), (∀ i ∈ l, v i = v' i) → frame ops v l a = frame ops v' l a
  | [], _, _ => rfl
  | i :: l, a, h => by
    show frame ops v l (a.put (dstOf ops i) (v i)) = frame ops v' l (a.put (dstOf ops i) (v' i))
    rw [h i (.head _)]; exact frame_congr ops l _ (fun j hj => h j (.tail _ hj))

structure View (ops : Array Oper) (a0 : Act) (listed : Array Bool) (v : Nat → Value) (a : Act) : Prop where
  defers : a.defers = a0.defers
  size : a.tmps.size = a0.tmps.size
  on : ∀ i t, dstOf ops i = some t → listed.getD i false = true → t < a0.tmps.size → a.tmps[t]? = some (v i)
  off : ∀ t, (∀ i, dstOf ops i = some t → listed.getD i false = false) → a.tmps[t]? = a0.tmps[t]?

theorem getD_set_self {listed : Array Bool} {i : Nat} (h : i < listed.size) : (listed.setIfInBounds i true).getD i false = true := by simp [h]

theorem View.put {ops : Array Oper} {a0 : Act} {listed : Array Bool} {v v' : Nat → Value} {a : Act} (h : View ops a0 listed v a) (hd : ∀ i j t, dstOf ops i = some t → dstOf ops j = some t → i = j)
    {i : Nat} (hi : i < listed.size) (hv : ∀ j, j ≠ i → listed.getD j false = true → v' j = v j) : View ops a0 (listed.setIfInBounds i true) v' (a.put (dstOf ops i) (v' i)) := by
  refine ⟨(put_defers _ _ _).trans h.defers, (put_size _ _ _).trans h.size, fun j t hj hl ht => ?_, fun t ht => ?_⟩
  · by_cases e : j = i
    · subst e; rw [hj]; exact put_same _ _ _ (by rw [h.size]; exact ht)
    · rw [getD_set_ne false (Ne.symm e)] at hl
      rw [put_other _ _ _ _ (fun e2 => e (hd j i t hj e2)), hv j e hl]
      exact h.on j t hj hl ht
  · rw [put_other _ _ _ _ (fun e => by have := ht i e; rw [getD_set_self hi] at this; cases this)]
    exact h.off t fun j hj => by
      by_cases e : j = i
      · subst e; have := ht j hj; rw [getD_set_self hi] at this; cases this
      · have := ht j hj; rwa [getD_set_ne false (Ne.symm e)] at this

theorem View.agree {ops : Array Oper} {a0 : Act} {listed : Array Bool} {v : Nat → Value} {a : Act} (h : View ops a0 listed v a) (hd : ∀ i j t, dstOf ops i = some t → dstOf ops j = some t → i = j) (l : List Nat) (t : Tmp)
    (hl : ∀ j, dstOf ops j = some t → (listed.getD j false = true ∧ j ∈ l) ∨ (listed.getD j false = false ∧ j ∉ l)) : a.tmps[t]? = (frame ops v l a0).tmps[t]? := by
  by_cases he : ∃ j, dstOf ops j = some t
  · obtain ⟨j, hj⟩ := he
    rcases hl j hj with ⟨h1, h2⟩ | ⟨h1, h2⟩
    · by_cases ht : t < a0.tmps.size
      · rw [h.on j t hj h1 ht, frame_on ops v hd j t hj l a0 h2 ht]
      · rw [Array.getElem?_eq_none (by rw [h.size]; exact Nat.not_lt.1 ht), Array.getElem?_eq_none (by rw [frame_size]; exact Nat.not_lt.1 ht)]
    · rw [h.off t (fun i hi => by rw [hd i j t hi hj]; exact h1), frame_off ops v t l a0 (fun i hi e => h2 (by rw [← hd i j t e hj]; exact hi))]
  · rw [h.off t (fun i hi => absurd ⟨i, hi⟩ he), frame_off ops v t l a0 (fun i _ hi => he ⟨i, hi⟩)]

theorem View.full {ops : Array Oper} {a0 : Act} {listed : Array Bool} {v : Nat → Value} {a : Act} (h : View ops a0 listed v a) (hd : ∀ i j t, dstOf ops i = some t → dstOf ops j = some t → i = j) (l : List Nat)
    (hl : ∀ j, j < ops.size → listed.getD j false = true ∧ j ∈ l) : a = frame ops v l a0 := by
  have e1 : a.tmps = (frame ops v l a0).tmps := Array.ext_getElem? fun t => h.agree hd l t fun j hj => .inl <| hl j (by
    unfold dstOf at hj
    rcases Nat.lt_or_ge j ops.size with q | q
    · exact q
    · rw [Array.getElem?_eq_none q] at hj; cases hj)
  have e2 : a.defers = (frame ops v l a0).defers := h.defers.trans (frame_defers ops v l a0).symm
  obtain ⟨t1, d1⟩ := a
  revert e1 e2
  generalize frame ops v l a0 = b
  obtain ⟨t2, d2⟩ := b
  rintro rfl rfl
  rfl

/-! ### The check -/
/-- What must have come up before operation k: one pass backward. -/
def mark (ops : Array Oper) : Nat → List Nat → List Nat
  | 0, S => S
  | k + 1, S => mark ops k (if S.contains k then S ++ preds ops k else S)
def floats (ops : Array Oper) (ts : List Nat) (i : Nat) : Bool := match ts with
  | [] => false
  | t :: _ => !(mark ops t (preds ops t)).contains i

def plainOp (o : Oper) : Bool := match o.op with | .select .. => false | .defer .. => false | _ => true
/-- Each element looks only at what stands before it. -/
def orderB (ops : Array Oper) : List Nat → List Nat → Bool
  | _, [] => true
  | pre, i :: l => ((looks ops i).all fun t => (List.range ops.size).all fun j => !(dstOf ops j == some t) || (((preds ops i).contains j && pre.contains j) || ((preds ops j).contains i && !pre.contains j))) && orderB ops (pre ++ [i]) l
def chainB (ops : Array Oper) : List Nat → Bool
  | i :: j :: l => (preds ops j).contains i && chainB ops (j :: l)
  | _ => true
def nodupB : List Nat → Bool
  | [] => true
  | i :: l => !l.contains i && nodupB l
def chk (ops : Array Oper) (size : Nat) (fs ls ts : List Nat) : Bool :=
  nodupB (fs ++ ls ++ ts) && (List.range ops.size).all (fun i => (fs ++ ls ++ ts).contains i) && (fs ++ ls ++ ts).all (fun i => decide (i < ops.size)) &&
  (List.range ops.size).all (fun i => (List.range ops.size).all fun j => i == j || dstOf ops i == none || dstOf ops i != dstOf ops j) &&
  ops.toList.all plainOp && orderB ops [] (fs ++ ls ++ ts) && chainB ops ts &&
  (List.range ops.size).all (fun i => (preds ops i).all fun j => decide (j < i)) &&
  (match ts.getLast? with | none => true | some t => fs.all (mark ops t (preds ops t)).contains) && ls.all (fun i => !floats ops ts i) && (fs ++ ls).all (fun i => match dstOf ops i with | some t => decide (t < size) | none => false)

structure Chk (ops : Array Oper) (size : Nat) (fs ls ts : List Nat) : Prop where
  nodup : (fs ++ ls ++ ts).Nodup
  all : ∀ i, i < ops.size → i ∈ fs ++ ls ++ ts
  lt : ∀ i ∈ fs ++ ls ++ ts, i < ops.size
  distinct : ∀ i j t, dstOf ops i = some t → dstOf ops j = some t → i = j
  plain : ∀ (i : Nat) o, ops[i]? = some o → plainOp o = true
  order : ∀ pre i post, fs ++ ls ++ ts = pre ++ i :: post → ∀ t ∈ looks ops i, ∀ j, dstOf ops j = some t → (j ∈ preds ops i ∧ j ∈ pre) ∨ (i ∈ preds ops j ∧ j ∉ pre)
  chain : ∀ pre i j post, ts = pre ++ i :: j :: post → i ∈ preds ops j
  back : ∀ i, ∀ j ∈ preds ops i, j < i
  last : ∀ t, ts.getLast? = some t → ∀ i ∈ fs, i ∈ mark ops t (preds ops t)
  fixed : ∀ i ∈ ls, floats ops ts i = false
  dst : ∀ i ∈ fs ++ ls, ∃ t, dstOf ops i = some t ∧ t < size

theorem nodupB_spec : ∀ l : List Nat, nodupB l = true → l.Nodup
  | [], _ => List.nodup_nil
  | i :: l, h => by
    simp only [nodupB, Bool.and_eq_true, Bool.not_eq_true', List.contains_eq_mem, decide_eq_false_iff_not] at h
    exact List.nodup_cons.2 ⟨h.1, nodupB_spec l h.2⟩
theorem dst_lt {ops : Array Oper} {i : Nat} {t : Tmp} (h : dstOf ops i = some t) : i < ops.size := by
  unfold dstOf at h
  rcases Nat.lt_or_ge i ops.size with q | q
  · exact q
  · rw [Array.getElem?_eq_none q] at h; cases h
theorem orderB_spec {ops : Array Oper} : ∀ (l pre0 : List Nat), orderB ops pre0 l = true → ∀ pre i post, l = pre ++ i :: post → ∀ t ∈ looks ops i, ∀ j, dstOf ops j = some t → (j ∈ preds ops i ∧ j ∈ pre0 ++ pre) ∨ (i ∈ preds ops j ∧ j ∉ pre0 ++ pre)
  | [], _, _, pre, i, post, e, _, _, _, _ => by cases pre <;> cases e
  | k :: l, pre0, h, pre, i, post, e, t, ht, j, hj => by
    simp only [orderB, Bool.and_eq_true] at h
    cases pre with
    | nil =>
      simp only [List.nil_append, List.cons.injEq] at e
      obtain ⟨rfl, rfl⟩ := e
      have h1 := List.all_eq_true.1 h.1 t ht
      have h2 := List.all_eq_true.1 h1 j (List.mem_range.2 (dst_lt hj))
      rw [hj] at h2
      simp only [BEq.rfl, Bool.not_true, Bool.false_or, Bool.or_eq_true, Bool.and_eq_true, Bool.not_eq_true', List.contains_eq_mem, decide_eq_true_eq, decide_eq_false_iff_not] at h2
      rw [List.append_nil]
      exact h2
    | cons p pre =>
      simp only [List.cons_append, List.cons.injEq] at e
      obtain ⟨rfl, e⟩ := e
      have := orderB_spec l _ h.2 pre i post e t ht j hj
      simpa using this
theorem chainB_spec {ops : Array Oper} : ∀ (l : List Nat), chainB ops l = true → ∀ pre i j post, l = pre ++ i :: j :: post → i ∈ preds ops j
  | [], _, pre, _, _, _, e => by cases pre <;> cases e
  | [k], _, pre, i, j, post, e => by
    cases pre with
    | nil => cases e
    | cons p pre => simp at e
  | k :: m :: l, h, pre, i, j, post, e => by
    simp only [chainB, Bool.and_eq_true, List.contains_eq_mem, decide_eq_true_eq] at h
    cases pre with
    | nil => simp only [List.nil_append, List.cons.injEq] at e; obtain ⟨rfl, rfl, _⟩ := e; exact h.1
    | cons p pre =>
      simp only [List.cons_append, List.cons.injEq] at e
      exact chainB_spec (m :: l) h.2 pre i j post e.2
theorem preds_lt {ops : Array Oper} {i j : Nat} (h : j ∈ preds ops i) : i < ops.size := by
  unfold preds at h
  rcases Nat.lt_or_ge i ops.size with q | q
  · exact q
  · rw [Array.getElem?_eq_none q] at h; cases h

theorem chk_spec {ops : Array Oper} {size : Nat} {fs ls ts : List Nat} (h : chk ops size fs ls ts = true) : Chk ops size fs ls ts := by
  simp only [chk, Bool.and_eq_true] at h
  obtain ⟨⟨⟨⟨⟨⟨⟨⟨⟨⟨h1, h2⟩, h3⟩, h4⟩, h5⟩, h6⟩, h7⟩, h8⟩, hl⟩, h9⟩, h10⟩ := h
  refine ⟨nodupB_spec _ h1, fun i hi => ?_, fun i hi => ?_, fun i j t hi hj => ?_, fun i o ho => ?_, fun pre i post e t ht j hj => ?_, chainB_spec _ h7, fun i j hj => ?_, fun t ht i hi => ?_, fun i hi => ?_, fun i hi => ?_⟩
  · have := List.all_eq_true.1 h2 i (List.mem_range.2 hi); simpa using this
  · have := List.all_eq_true.1 h3 i hi; simpa using this
  · have := List.all_eq_true.1 (List.all_eq_true.1 h4 i (List.mem_range.2 (dst_lt hi))) j (List.mem_range.2 (dst_lt hj))
    rw [hi, hj] at this
    simp at this
    exact this
  · obtain ⟨hl, rfl⟩ := Array.getElem?_eq_some_iff.1 ho
    exact List.all_eq_true.1 h5 _ (by simp)
  · have := orderB_spec _ _ h6 pre i post e t ht j hj; simpa using this
  · have := List.all_eq_true.1 (List.all_eq_true.1 h8 i (List.mem_range.2 (preds_lt hj))) j hj; simpa using this
  · rw [ht] at hl
    have := List.all_eq_true.1 hl i hi; simpa using this
  · have := List.all_eq_true.1 h9 i hi; simpa using this
  · have := List.all_eq_true.1 h10 i hi
    split at this
    · rename_i t ht; exact ⟨t, ht, by simpa using this⟩
    · cases this

theorem mark_listed {ops : Array Oper} {listed : Array Bool} (hc : ∀ i, listed.getD i false = true → ∀ j ∈ preds ops i, listed.getD j false = true) :
    ∀ (k : Nat) (S : List Nat), (∀ j ∈ S, listed.getD j false = true) → ∀ j ∈ mark ops k S, listed.getD j false = true
  | 0, _, h => h
  | k + 1, S, h => mark_listed hc k _ (by
      split
      · rename_i q
        intro j hj
        rcases List.mem_append.1 hj with hj | hj
        · exact h j hj
        · exact hc k (h k (by simpa using q)) j hj
      · exact h)

/-! ### What one operation does -/
structure Sem (ops : Array Oper) where
  G : Oper → Act → World → (Value → World → Prop) → Prop
  mono : ∀ {o a w R R'}, (∀ v w', R v w' → R' v w') → G o a w R → G o a w R'
  congr : ∀ {o a a' w R}, plainOp o = true → (∀ t ∈ o.looksAt ops, a.tmps[t]? = a'.tmps[t]?) → G o a w R → G o a' w R

section
variable {ops : Array Oper} (S : Sem ops)
def atOp (i : Nat) (a : Act) (w : World) (R : Value → World → Prop) : Prop := match ops[i]? with | some o => S.G o a w R | none => False
def Fx (fl : Nat → Bool) (CA C : World → Prop) (St : Nat → World → World → Prop) : List Nat → Act → (Act → Prop) → Prop
  | [], a, k => k a
  | i :: l, a, k => ∃ c, ((∀ w, C w → atOp S i a w (fun v w' => v = c ∧ w' = w)) ∨ (fl i = false ∧ ∀ w, CA w → atOp S i a w (fun v w' => v = c ∧ CA w' ∧ St i w w'))) ∧ Fx fl CA C St l (a.put (dstOf ops i) c) k
def Lt (V : Nat → Value → World → Prop) (CA : World → Prop) (St : Nat → World → World → Prop) : List Nat → List (Nat × Value) → Act → (List (Nat × Value) → Act → Prop) → Prop
  | [], facts, a, k => k facts a
  | i :: l, facts, a, k => (∀ w, CA w → (∀ p ∈ facts, p.1 ∈ preds ops i → V p.1 p.2 w) → atOp S i a w (fun v w' => V i v w' ∧ CA w' ∧ St i w w')) ∧ ∀ v, Lt V CA St l ((i, v) :: facts) (a.put (dstOf ops i) v) k
def Tl (C : World → Prop) (Kn : Act → World → Prop) : List Nat → Act → World → Prop
  | [], a, w => Kn a w
  | i :: l, a, w => atOp S i a w (fun v w' => (l = [] ∨ C w') ∧ Tl C Kn l (a.put (dstOf ops i) v) w')

theorem atOp_mono {i : Nat} {a : Act} {w : World} {R R' : Value → World → Prop} (h : ∀ v w', R v w' → R' v w') (hh : atOp S i a w R) : atOp S i a w R' := by
  unfold atOp at *
  split
  · rename_i o ho; simp only [ho] at hh; exact S.mono h hh
  · rename_i ho; simp only [ho] at hh

theorem Fx_spec {fl : Nat → Bool} {CA C : World → Prop} {St : Nat → World → World → Prop} : ∀ (l : List Nat) (a : Act) (k : Act → Prop), l.Nodup → Fx S fl CA C St l a k →
    ∃ cf : Nat → Value, (∀ pre i post, l = pre ++ i :: post → ((∀ w, C w → atOp S i (frame ops cf pre a) w (fun v w' => v = cf i ∧ w' = w)) ∨ (fl i = false ∧ ∀ w, CA w → atOp S i (frame ops cf pre a) w (fun v w' => v = cf i ∧ CA w' ∧ St i w w')))) ∧ k (frame ops cf l a)
  | [], a, k, _, h => ⟨fun _ => undef, fun pre i post e => (by cases pre <;> cases e), h⟩
  | i :: l, a, k, hn, h => by
    obtain ⟨c, h1, h2⟩ := h
    obtain ⟨cf, h3, h4⟩ := Fx_spec l _ k (List.nodup_cons.1 hn).2 h2
    have hne : ∀ j ∈ l, cf j = (fun j => if j = i then c else cf j) j := fun j hj => by
      have : j ≠ i := fun e => (List.nodup_cons.1 hn).1 (e ▸ hj)
      simp [this]
    refine ⟨fun j => if j = i then c else cf j, fun pre j post e => ?_, ?_⟩
    · cases pre with
      | nil =>
        simp only [List.nil_append, List.cons.injEq] at e
        obtain ⟨rfl, _⟩ := e
        simpa [frame] using h1
      | cons p pre =>
        simp only [List.cons_append, List.cons.injEq] at e
        obtain ⟨rfl, e⟩ := e
        have h5 := h3 pre j post e
        have hj : j ∈ l := by rw [e]; simp
        have hf : frame ops (fun j => if j = i then c else cf j) (i :: pre) a = frame ops cf pre (a.put (dstOf ops i) c) := by
          show frame ops _ pre (a.put (dstOf ops i) (if i = i then c else cf i)) = _
          rw [if_pos rfl]
          exact (frame_congr ops pre _ (fun q hq => hne q (by rw [e]; exact List.mem_append_left _ hq))).symm
        rw [hf, ← hne j hj]
        exact h5
    · have hf : frame ops (fun j => if j = i then c else cf j) (i :: l) a = frame ops cf l (a.put (dstOf ops i) c) := by
        show frame ops _ l (a.put (dstOf ops i) (if i = i then c else cf i)) = _
        rw [if_pos rfl]
        exact (frame_congr ops l _ hne).symm
      rw [hf]; exact h4

theorem Lt_spec {V : Nat → Value → World → Prop} {CA : World → Prop} {St : Nat → World → World → Prop} (v : Nat → Value) (ls : List Nat) : ∀ (l : List Nat) (facts : List (Nat × Value)) (a : Act) (k : List (Nat × Value) → Act → Prop), (∀ i ∈ l, i ∈ ls) → (∀ p ∈ facts, p.2 = v p.1 ∧ p.1 ∈ ls) → Lt S V CA St l facts a k →
    (∀ pre i post, l = pre ++ i :: post → ∀ w, CA w → (∀ j ∈ preds ops i, j ∈ ls → V j (v j) w) → atOp S i (frame ops v pre a) w (fun u w' => V i u w' ∧ CA w' ∧ St i w w')) ∧ ∃ facts', (∀ p ∈ facts', p.2 = v p.1 ∧ p.1 ∈ ls) ∧ k facts' (frame ops v l a)
  | [], facts, a, k, _, hf, h => ⟨fun pre i post e => (by cases pre <;> cases e), facts, hf, h⟩
  | i :: l, facts, a, k, hl, hf, h => by
    obtain ⟨h1, h2⟩ := h
    obtain ⟨h3, facts', h4, h5⟩ := Lt_spec v ls l ((i, v i) :: facts) _ k (fun j hj => hl j (.tail _ hj)) (fun p hp => by cases hp with | head => exact ⟨rfl, hl i (.head _)⟩ | tail _ hp => exact hf p hp) (h2 (v i))
    refine ⟨fun pre j post e w hw hp => ?_, facts', h4, h5⟩
    cases pre with
    | nil =>
      simp only [List.nil_append, List.cons.injEq] at e
      obtain ⟨rfl, _⟩ := e
      exact h1 w hw fun p hp2 hp3 => by rw [(hf p hp2).1]; exact hp _ hp3 (hf p hp2).2
    | cons p pre =>
      simp only [List.cons_append, List.cons.injEq] at e
      obtain ⟨rfl, e⟩ := e
      exact h3 pre j post e w hw hp

theorem atOp_congr {i : Nat} {a a' : Act} {w : World} {R : Value → World → Prop} (hp : ∀ (i : Nat) o, ops[i]? = some o → plainOp o = true) (ha : ∀ t ∈ looks ops i, a.tmps[t]? = a'.tmps[t]?) (hh : atOp S i a w R) : atOp S i a' w R := by
  unfold atOp looks at *
  split
  · rename_i o ho
    simp only [ho] at hh ha
    exact S.congr (hp i o ho) ha hh
  · rename_i ho; simp only [ho] at hh

/-- What holds on the way. -/
structure Inv (fs ls ts : List Nat) (a0 : Act) (cf : Nat → Value) (V : Nat → Value → World → Prop) (CA C : World → Prop) (Kn : Act → World → Prop) (listed : Array Bool) (a : Act) (w : World) : Prop where
  size : listed.size = ops.size
  closed : ∀ i, listed.getD i false = true → ∀ j ∈ preds ops i, listed.getD j false = true
  rest : ∃ v : Nat → Value, View ops a0 listed v a ∧ (∀ i ∈ fs, v i = cf i) ∧ ∃ k, k ≤ ts.length ∧ (∀ j i, ts[j]? = some i → (listed.getD i false = true ↔ j < k)) ∧
    ((k = 0 ∧ CA w ∧ ∀ j ∈ ls, listed.getD j false = true → V j (v j) w) ∨
     (0 < k ∧ (k < ts.length → C w) ∧ (∀ i ∈ ls, listed.getD i false = true) ∧ (∀ i ∈ fs, floats ops ts i = false → listed.getD i false = true) ∧ Tl S C Kn (ts.drop k) (frame ops v (fs ++ ls ++ ts.take k) a0) w))

theorem getD_false {listed : Array Bool} {i : Nat} (hi : i < listed.size) (h : listed.getD i true = false) : listed.getD i false = false := by
  simp [hi] at h ⊢; exact h

theorem ready_preds {listed : Array Bool} {i : Nat} (h : i ∈ Region.ready .any ops listed) : i < ops.size ∧ listed.getD i true = false ∧ (∀ j ∈ preds ops i, listed.getD j false = true) := by
  obtain ⟨h0, o, ho, hall⟩ := mem_ready.1 h
  refine ⟨(Array.getElem?_eq_some_iff.1 ho).1, h0, fun j hj => ?_⟩
  unfold preds at hj
  simp only [ho, Option.map_some, Option.getD_some, List.mem_map, List.mem_filter] at hj
  obtain ⟨e, ⟨he, hb⟩, rfl⟩ := hj
  exact hall e (by simpa using he) hb

theorem split_at {l : List Nat} {i : Nat} (h : i ∈ l) : ∃ pre post, l = pre ++ i :: post := List.append_of_mem h

theorem frame_upd {v : Nat → Value} {i : Nat} {u : Value} (l : List Nat) (a : Act) (h : i ∉ l) : frame ops (fun j => if j = i then u else v j) l a = frame ops v l a :=
  frame_congr ops l a fun j hj => by
    have : j ≠ i := fun e => h (e ▸ hj)
    simp [this]

theorem getD_set {listed : Array Bool} {i j : Nat} (hi : i < listed.size) : (listed.setIfInBounds i true).getD j false = (if j = i then true else listed.getD j false) := by
  by_cases e : j = i
  · subst e; rw [if_pos rfl]; exact getD_set_self hi
  · rw [if_neg e, getD_set_ne false (Ne.symm e)]

theorem mem_parts {fs ls ts : List Nat} (hn : (fs ++ ls ++ ts).Nodup) {i : Nat} : (i ∈ fs → i ∉ ls ∧ i ∉ ts) ∧ (i ∈ ls → i ∉ ts) := by
  rw [List.nodup_append] at hn
  obtain ⟨h1, h2, h3⟩ := hn
  rw [List.nodup_append] at h1
  exact ⟨fun hi => ⟨fun hl => h1.2.2 i hi i hl rfl, fun ht => h3 i (by simp [hi]) i ht rfl⟩, fun hl ht => h3 i (by simp [hl]) i ht rfl⟩

/-- THE RULE, as an invariant. -/
theorem inv_step {fs ls ts : List Nat} {a0 : Act} {cf : Nat → Value} {V : Nat → Value → World → Prop} {CA C : World → Prop} {Kn : Act → World → Prop} (hk : Chk ops a0.tmps.size fs ls ts) (hCA : ∀ w, CA w → C w)
    (hF : ∀ pre i post, fs = pre ++ i :: post → ((∀ w, C w → atOp S i (frame ops cf pre a0) w (fun v w' => v = cf i ∧ w' = w)) ∨
      (floats ops ts i = false ∧ ∀ w, CA w → atOp S i (frame ops cf pre a0) w (fun v w' => v = cf i ∧ CA w' ∧ ∀ j ∈ ls, j ≠ i → ∀ u, V j u w → V j u w'))))
    (hL : ∀ v : Nat → Value, (∀ i ∈ fs, v i = cf i) → (∀ pre i post, ls = pre ++ i :: post → ∀ w, CA w → (∀ j ∈ preds ops i, j ∈ ls → V j (v j) w) → atOp S i (frame ops v (fs ++ pre) a0) w (fun u w' => V i u w' ∧ CA w' ∧ ∀ j ∈ ls, j ≠ i → ∀ x, V j x w → V j x w')) ∧
      ∀ w, CA w → (∀ j ∈ ls, V j (v j) w) → Tl S C Kn ts (frame ops v (fs ++ ls) a0) w)
    {listed : Array Bool} {a : Act} {w : World} (h : Inv S fs ls ts a0 cf V CA C Kn listed a w) {i : Nat} (hi : i ∈ Region.ready .any ops listed) :
    atOp S i a w (fun u w' => Inv S fs ls ts a0 cf V CA C Kn (listed.setIfInBounds i true) (a.put (dstOf ops i) u) w') := by
  obtain ⟨hlt, hun, hpre⟩ := ready_preds hi
  obtain ⟨hsz, hcl, v, hv, hvf, k, hkl, hkt, hst⟩ := h
  have hun' := getD_false (by rw [hsz]; exact hlt) hun
  have hil : i < listed.size := by rw [hsz]; exact hlt
  have hcl' : ∀ m, (listed.setIfInBounds i true).getD m false = true → ∀ j ∈ preds ops m, (listed.setIfInBounds i true).getD j false = true := fun m hm j hj => by
    by_cases e : m = i
    · subst e; exact getD_set_true (hpre j hj)
    · rw [getD_set_ne false (Ne.symm e)] at hm; exact getD_set_true (hcl m hm j hj)
  have agree : ∀ (pre post : List Nat), fs ++ ls ++ ts = pre ++ i :: post → ∀ t ∈ looks ops i, (frame ops v pre a0).tmps[t]? = a.tmps[t]? := fun pre post e t ht =>
    (hv.agree hk.distinct pre t fun j hj => by
      rcases hk.order pre i post e t ht j hj with ⟨h1, h2⟩ | ⟨h1, h2⟩
      · exact .inl ⟨hpre j h1, h2⟩
      · refine .inr ⟨?_, h2⟩
        cases hlj : listed.getD j false with
        | false => rfl
        | true => have := hcl j hlj i h1; rw [this] at hun'; cases hun').symm
  have hvput : ∀ u, View ops a0 (listed.setIfInBounds i true) (fun j => if j = i then u else v j) (a.put (dstOf ops i) u) := fun u => by
    have := hv.put (v' := fun j => if j = i then u else v j) hk.distinct hil (fun j hj _ => by simp [hj])
    simpa using this
  rcases List.mem_append.1 (hk.all i hlt) with hi1 | hi1
  · rcases List.mem_append.1 hi1 with hi2 | hi2
    · -- fixed
      obtain ⟨pre, post, e⟩ := split_at hi2
      obtain ⟨hnl, hnt⟩ := (mem_parts hk.nodup).1 hi2
      have hfr : frame ops cf pre a0 = frame ops v pre a0 := frame_congr ops pre a0 fun j hj => (hvf j (by rw [e]; exact List.mem_append_left _ hj)).symm
      have hag := agree pre (post ++ ls ++ ts) (by rw [e]; simp)
      have hkt' : ∀ j m, ts[j]? = some m → ((listed.setIfInBounds i true).getD m false = true ↔ j < k) := fun j m hm => by
        rw [getD_set_ne false (fun (e : i = m) => hnt (e ▸ List.mem_of_getElem? hm))]; exact hkt j m hm
      rcases hF pre i post e with h1 | ⟨hfl, h1⟩
      · have hC : C w ∨ ts.length ≤ k ∧ 0 < k := by
          rcases hst with ⟨_, h2, _⟩ | ⟨h0, h2, _⟩
          · exact .inl (hCA w h2)
          · by_cases q : k < ts.length
            · exact .inl (h2 q)
            · exact .inr ⟨by omega, h0⟩
        have hC2 : C w := by
          rcases hC with hC | ⟨hC, h0⟩
          · exact hC
          · -- the whole tail is listed, so every operation is: none is ready
            exfalso
            have hne : ts ≠ [] := by intro e; subst e; simp at hkl; omega
            obtain ⟨t, ht⟩ : ∃ t, ts.getLast? = some t := by rw [List.getLast?_eq_some_getLast hne]; exact ⟨_, rfl⟩
            have ht2 := ht
            rw [List.getLast?_eq_getElem?] at ht2
            have hl := (hkt _ t ht2).2 (by have : 0 < ts.length := List.length_pos_iff.2 hne; omega)
            have := mark_listed hcl t _ (hcl t hl) i (hk.last t ht i hi2)
            rw [this] at hun'; cases hun'
        rw [hfr] at h1
        refine atOp_mono S ?_ (atOp_congr S hk.plain hag (h1 w hC2))
        rintro u w' ⟨rfl, rfl⟩
        refine ⟨by simpa using hsz, hcl', v, ?_, hvf, k, hkl, hkt', ?_⟩
        · have := hvput (cf i)
          have e2 : (fun j => if j = i then cf i else v j) = v := by
            funext j; by_cases q : j = i
            · subst q; simp [hvf j hi2]
            · simp [q]
          rwa [e2] at this
        · rcases hst with ⟨h0, h2, h3⟩ | ⟨h0, h2, h3, h4, h5⟩
          · exact .inl ⟨h0, h2, fun j hj hl => h3 j hj (by rwa [getD_set_ne false (fun (e : i = j) => hnl (e ▸ hj))] at hl)⟩
          · exact .inr ⟨h0, h2, fun j hj => getD_set_true (h3 j hj), fun j hj hf => getD_set_true (h4 j hj hf), h5⟩
      · rcases hst with ⟨h0, h2, h3⟩ | ⟨_, _, _, h4, _⟩
        · rw [hfr] at h1
          refine atOp_mono S ?_ (atOp_congr S hk.plain hag (h1 w h2))
          rintro u w' ⟨rfl, hca, hstab⟩
          refine ⟨by simpa using hsz, hcl', v, ?_, hvf, k, hkl, hkt', .inl ⟨h0, hca, fun j hj hl => hstab j hj (fun (e : j = i) => hnl (e ▸ hj)) _ (h3 j hj (by rwa [getD_set_ne false (fun (e : i = j) => hnl (e ▸ hj))] at hl))⟩⟩
          have := hvput (cf i)
          have e2 : (fun j => if j = i then cf i else v j) = v := by
            funext j; by_cases q : j = i
            · subst q; simp [hvf j hi2]
            · simp [q]
          rwa [e2] at this
        · rw [h4 i hi2 hfl] at hun'; cases hun'
    · -- letters
      obtain ⟨pre, post, e⟩ := split_at hi2
      have hnt := (mem_parts hk.nodup).2 hi2
      have hnf : i ∉ fs := fun hf => ((mem_parts hk.nodup).1 hf).1 hi2
      rcases hst with ⟨h0, h2, h3⟩ | ⟨_, _, h3, _, _⟩
      · have hag := agree (fs ++ pre) (post ++ ts) (by rw [e]; simp)
        refine atOp_mono S ?_ (atOp_congr S hk.plain hag ((hL v hvf).1 pre i post e w h2 fun j hj hjl => h3 j hjl (hpre j hj)))
        rintro u w' ⟨hV, hca, hstab⟩
        refine ⟨by simpa using hsz, hcl', _, hvput u, fun j hj => by have : j ≠ i := fun (e : j = i) => hnf (e ▸ hj); simp [this, hvf j hj], k, hkl, fun j m hm => ?_, .inl ⟨h0, hca, fun j hj hl => ?_⟩⟩
        · rw [getD_set_ne false (fun (e : i = m) => hnt (e ▸ List.mem_of_getElem? hm))]; exact hkt j m hm
        · by_cases q : j = i
          · subst q; simpa using hV
          · rw [getD_set_ne false (Ne.symm q)] at hl
            simp only [q, if_false]
            exact hstab j hj q _ (h3 j hj hl)
      · rw [h3 i hi2] at hun'; cases hun'
  · -- the tail
    have hnf : i ∉ fs := fun hf => ((mem_parts hk.nodup).1 hf).2 hi1
    have hnl : i ∉ ls := fun hf => (mem_parts hk.nodup).2 hf hi1
    obtain ⟨q, hq, hqi⟩ := List.getElem_of_mem hi1
    have hq2 : ts[q]? = some i := by rw [List.getElem?_eq_getElem hq, hqi]
    have hnd : ts.Nodup := (List.nodup_append.1 hk.nodup).2.1
    have hqk : q = k := by
      have h1 : ¬ q < k := fun h => by rw [(hkt q i hq2).2 h] at hun'; cases hun'
      cases q with
      | zero => omega
      | succ q =>
        have hq0 : q < ts.length := by omega
        have e : ts = ts.take q ++ ts[q] :: i :: ts.drop (q + 2) := by
          conv => lhs; rw [← List.take_append_drop q ts, List.drop_eq_getElem_cons hq0, List.drop_eq_getElem_cons hq, hqi]
        have h2 := hpre _ (hk.chain _ _ _ _ e)
        have := (hkt q ts[q] (List.getElem?_eq_getElem hq0)).1 h2
        omega
    subst hqk
    have htake : ts.take (q + 1) = ts.take q ++ [i] := by rw [List.take_succ_eq_append_getElem hq, hqi]
    have hdrop : ts.drop q = i :: ts.drop (q + 1) := by rw [List.drop_eq_getElem_cons hq, hqi]
    have hT : Tl S C Kn (ts.drop q) (frame ops v (fs ++ ls ++ ts.take q) a0) w ∧ (∀ i ∈ ls, listed.getD i false = true) ∧ (∀ i ∈ fs, floats ops ts i = false → listed.getD i false = true) := by
      rcases hst with ⟨h0, h2, h3⟩ | ⟨_, _, h3, h4, h5⟩
      · subst h0
        obtain ⟨t, r, e⟩ : ∃ t r, ts = t :: r := by cases ts with | nil => cases hi1 | cons t r => exact ⟨t, r, rfl⟩
        have ei : t = i := by rw [e] at hq2; simpa using hq2
        have hmk := mark_listed hcl i _ hpre
        have hall : ∀ j, floats ops ts j = false → listed.getD j false = true := fun j hj => by
          rw [e] at hj
          simp only [floats, ei, Bool.not_eq_false', List.contains_eq_mem, decide_eq_true_eq] at hj
          exact hmk j hj
        have hls : ∀ j ∈ ls, listed.getD j false = true := fun j hj => hall j (hk.fixed j hj)
        refine ⟨?_, hls, fun j _ hf => hall j hf⟩
        simpa using (hL v hvf).2 w h2 fun j hj => h3 j hj (hls j hj)
      · exact ⟨h5, h3, h4⟩
    obtain ⟨h5, h3, h4⟩ := hT
    rw [hdrop] at h5
    have e3 : fs ++ ls ++ ts = (fs ++ ls ++ ts.take q) ++ i :: ts.drop (q + 1) := by
      conv => lhs; rw [← List.take_append_drop q ts, hdrop]
      simp
    have hag := agree _ _ e3
    refine atOp_mono S ?_ (atOp_congr S hk.plain hag h5)
    rintro u w' ⟨hc, ht⟩
    refine ⟨by simpa using hsz, hcl', _, hvput u, fun j hj => by have : j ≠ i := fun (e : j = i) => hnf (e ▸ hj); simp [this, hvf j hj], q + 1, hq, fun j m hm => ?_, .inr ⟨by omega, fun hlt2 => ?_, fun j hj => getD_set_true (h3 j hj), fun j hj hf => getD_set_true (h4 j hj hf), ?_⟩⟩
    · by_cases e : m = i
      · subst e
        rw [getD_set_self hil]
        have : j = q := by
          obtain ⟨hj, e2⟩ := List.getElem?_eq_some_iff.1 hm
          rcases Nat.lt_trichotomy j q with h | h | h
          · exact absurd (e2.trans hqi.symm) (List.pairwise_iff_getElem.1 hnd j q hj hq h)
          · exact h
          · exact absurd (e2.trans hqi.symm).symm (List.pairwise_iff_getElem.1 hnd q j hq hj h)
        simp; omega
      · rw [getD_set_ne false (Ne.symm e), hkt j m hm]
        constructor
        · intro h; omega
        · intro h
          rcases Nat.lt_or_ge j q with h6 | h6
          · exact h6
          · exfalso
            have : j = q := by omega
            subst this
            rw [hq2] at hm; exact e (Option.some.inj hm).symm
    · rcases hc with hc | hc
      · have := congrArg List.length hc; simp at this; omega
      · exact hc
    · have hni : i ∉ fs ++ ls ++ ts.take q := by
        have := hk.nodup
        rw [e3, List.nodup_append] at this
        exact fun h => this.2.2 i h i (.head _) rfl
      rw [htake, ← List.append_assoc, frame_app, frame_upd _ _ hni]
      show Tl S C Kn _ ((frame ops v (fs ++ ls ++ ts.take q) a0).put (dstOf ops i) (if i = i then u else v i)) w'
      rw [if_pos rfl]; exact ht

/-! ### The recursion over all orders -/
def anyG (rd : Array Bool → List Nat) (opAt : Nat → (Act → World → Prop) → Act → World → Prop) (Qn : Act → World → Prop) : Nat → Array Bool → Act → World → Prop
  | 0, listed, a, w => rd listed = [] ∧ Qn a w
  | f + 1, listed, a, w => (rd listed = [] → Qn a w) ∧ ∀ i ∈ rd listed, opAt i (anyG rd opAt Qn f (listed.setIfInBounds i true)) a w

theorem nodup_bound : ∀ (n : Nat) (S : List Nat), S.Nodup → (∀ i ∈ S, i < n) → S.length ≤ n
  | 0, S, _, h => by cases S with | nil => exact Nat.le_refl _ | cons x S => exact absurd (h x (.head _)) (by omega)
  | n + 1, S, hn, h => by
    have h1 := nodup_bound n (S.erase n) (hn.erase n) fun i hi => by
      have := (List.Nodup.mem_erase_iff hn).1 hi
      have := h i this.2
      omega
    by_cases e : n ∈ S
    · rw [List.length_erase_of_mem e] at h1; omega
    · rw [List.erase_of_not_mem e] at h1; omega

theorem anyG_inv {opAt : Nat → (Act → World → Prop) → Act → World → Prop} {Qn : Act → World → Prop} (I : Array Bool → Act → World → Prop) (hsz : ∀ listed a w, I listed a w → listed.size = ops.size)
    (step : ∀ listed a w, I listed a w → ∀ i ∈ Region.ready .any ops listed, opAt i (fun a' w' => I (listed.setIfInBounds i true) a' w') a w)
    (mono : ∀ i K K' a w, (∀ a w, K a w → K' a w) → opAt i K a w → opAt i K' a w) (done : ∀ listed a w, I listed a w → Region.ready .any ops listed = [] → Qn a w) :
    ∀ (f : Nat) (listed : Array Bool) (a : Act) (w : World), (∀ S : List Nat, S.Nodup → (∀ i ∈ S, i < ops.size ∧ listed.getD i true = false) → S.length ≤ f) → I listed a w → anyG (Region.ready .any ops) opAt Qn f listed a w
  | 0, listed, a, w, hf, h => by
    have : Region.ready .any ops listed = [] := by
      cases hr : Region.ready .any ops listed with
      | nil => rfl
      | cons x l =>
        obtain ⟨h1, h2, _⟩ := ready_preds (listed := listed) (i := x) (by rw [hr]; exact .head _)
        have := hf [x] (by simp) (by simp; exact ⟨h1, by simpa using h2⟩)
        simp at this
    exact ⟨this, done _ _ _ h this⟩
  | f + 1, listed, a, w, hf, h => by
    refine ⟨done _ _ _ h, fun i hi => mono i _ _ a w (fun a' w' h' => anyG_inv I hsz step mono done f _ a' w' (fun S hn hS => ?_) h') (step _ _ _ h i hi)⟩
    obtain ⟨h1, h2, _⟩ := ready_preds hi
    have hil : i < listed.size := by rw [hsz _ _ _ h]; exact h1
    have hni : i ∉ S := fun hm => by
      have := (hS i hm).2
      simp [hil] at this
    have := hf (i :: S) (List.nodup_cons.2 ⟨hni, hn⟩) fun j hj => by
      cases hj with
      | head => exact ⟨h1, h2⟩
      | tail _ hj =>
        obtain ⟨h3, h4⟩ := hS j hj
        exact ⟨h3, by rwa [getD_set_ne true (fun (e : i = j) => hni (e ▸ hj))] at h4⟩
    simp at this; omega

theorem ready_none {listed : Array Bool} (hsz : listed.size = ops.size) (hb : ∀ i, ∀ j ∈ preds ops i, j < i) (h : Region.ready .any ops listed = []) : ∀ n, n ≤ ops.size → ∀ i, i < n → listed.getD i false = true
  | 0, _, i, hi => by omega
  | n + 1, hn, i, hi => by
    have ih := ready_none hsz hb h n (by omega)
    by_cases e : i < n
    · exact ih i e
    · have : i = n := by omega
      subst this
      cases hl : listed.getD i false with
      | true => rfl
      | false =>
        exfalso
        have hil : i < listed.size := by rw [hsz]; omega
        have : i ∈ Region.ready .any ops listed := mem_ready.2 ⟨by simp [hil] at hl ⊢; exact hl, ops[i]'(by omega), by simp [show i < ops.size by omega], fun e he hbd => ?_⟩
        · rw [h] at this; cases this
        · have hp : e.on ∈ preds ops i := by
            unfold preds
            simp only [Array.getElem?_eq_getElem (show i < ops.size by omega), Option.map_some, Option.getD_some, List.mem_map, List.mem_filter]
            exact ⟨e, ⟨by simpa using he, hbd⟩, rfl⟩
          exact ih _ (hb i _ hp)

theorem getD_repl (m j : Nat) : (Array.replicate m false).getD j false = false := by
  rcases Nat.lt_or_ge j m with h | h
  · simp [h]
  · simp [h]

/-- THE RULE, over whatever calculus. -/
theorem rule {opAt : Nat → (Act → World → Prop) → Act → World → Prop} (hop : ∀ i K a w, i < ops.size → atOp S i a w (fun v w' => K (a.put (dstOf ops i) v) w') → opAt i K a w) (mono : ∀ i K K' a w, (∀ a w, K a w → K' a w) → opAt i K a w → opAt i K' a w)
    (fs ls ts : List Nat) (a0 : Act) (V : Nat → Value → World → Prop) (CA C : World → Prop) (Kn : Act → World → Prop) (w0 : World) (hc : chk ops a0.tmps.size fs ls ts = true) (hCA : ∀ w, CA w → C w) (h0 : CA w0)
    (h : Fx S (floats ops ts) CA C (fun i w w' => ∀ j ∈ ls, j ≠ i → ∀ u, V j u w → V j u w') fs a0 fun a =>
      Lt S V CA (fun i w w' => ∀ j ∈ ls, j ≠ i → ∀ u, V j u w → V j u w') ls [] a fun facts a => ∀ w, CA w → (∀ p ∈ facts, V p.1 p.2 w) → Tl S C Kn ts a w) :
    anyG (Region.ready .any ops) opAt Kn ops.size (Array.replicate ops.size false) a0 w0 := by
  have hk := chk_spec hc
  obtain ⟨cf, hF, hL⟩ := Fx_spec S fs a0 _ (List.nodup_append.1 (List.nodup_append.1 hk.nodup).1).1 h
  have hL2 : ∀ v : Nat → Value, (∀ i ∈ fs, v i = cf i) → (∀ pre i post, ls = pre ++ i :: post → ∀ w, CA w → (∀ j ∈ preds ops i, j ∈ ls → V j (v j) w) → atOp S i (frame ops v (fs ++ pre) a0) w (fun u w' => V i u w' ∧ CA w' ∧ ∀ j ∈ ls, j ≠ i → ∀ x, V j x w → V j x w')) ∧
      ∀ w, CA w → (∀ j ∈ ls, V j (v j) w) → Tl S C Kn ts (frame ops v (fs ++ ls) a0) w := fun v hv => by
    obtain ⟨h1, facts, h2, h3⟩ := Lt_spec S v ls ls [] _ _ (fun i hi => hi) (fun p hp => by cases hp) hL
    have e : frame ops cf fs a0 = frame ops v fs a0 := frame_congr ops fs a0 fun j hj => (hv j hj).symm
    refine ⟨fun pre i post e2 w hw hp => ?_, fun w hw hp => ?_⟩
    · have := h1 pre i post e2 w hw hp
      rwa [e, ← frame_app] at this
    · have := h3 w hw (fun p hq => by rw [(h2 p hq).1]; exact hp _ (h2 p hq).2)
      rwa [e, ← frame_app] at this
  have h00 : Inv S fs ls ts a0 cf V CA C Kn (Array.replicate ops.size false) a0 w0 :=
    ⟨by simp, fun i hi => (by rw [getD_repl] at hi; cases hi), cf, ⟨rfl, rfl, fun i t _ hl => (by rw [getD_repl] at hl; cases hl), fun t _ => rfl⟩, fun _ _ => rfl, 0, Nat.zero_le _, fun j i _ => (by rw [getD_repl]; simp), .inl ⟨rfl, h0, fun j _ hl => (by rw [getD_repl] at hl; cases hl)⟩⟩
  refine anyG_inv (Inv S fs ls ts a0 cf V CA C Kn) (fun _ _ _ h => h.size) (fun listed a w hI i hi => hop i _ a w (ready_preds hi).1 (inv_step S hk hCA hF hL2 hI hi)) mono (fun listed a w hI hr => ?_) ops.size _ a0 w0 (fun S hn hS => nodup_bound _ S hn fun i hi => (hS i hi).1) h00
  obtain ⟨hsz, hcl, v, hv, hvf, k, hkl, hkt, hst⟩ := hI
  have hall := ready_none hsz hk.back hr ops.size (Nat.le_refl _)
  have hkk : k = ts.length := by
    rcases Nat.lt_or_ge k ts.length with h | h
    · have := (hkt k ts[k] (List.getElem?_eq_getElem h)).1 (hall _ (hk.lt _ (List.mem_append_right _ (List.getElem_mem _))))
      omega
    · omega
  have ha := hv.full hk.distinct (fs ++ ls ++ ts) fun j hj => ⟨hall j hj, hk.all j hj⟩
  rcases hst with ⟨h1, h2, h3⟩ | ⟨h1, _, _, _, h5⟩
  · have ets : ts = [] := List.eq_nil_of_length_eq_zero (by omega)
    have := (hL2 v hvf).2 w h2 fun j hj => h3 j hj (hall j (hk.lt _ (by simp [hj])))
    subst ets
    rw [ha, List.append_nil]
    exact this
  · rw [hkk, List.drop_length, List.take_length] at h5
    rw [ha]; exact h5
end

theorem eval_agree {ops : Array Oper} {o : Oper} {a a' : Act} (h : ∀ t ∈ o.looksAt ops, a.tmps[t]? = a'.tmps[t]?) : ∀ x ∈ o.op.operands, a.eval x = a'.eval x := by
  intro x hx
  cases x with
  | tmp t =>
    have := h t (List.mem_append_left _ (List.mem_filterMap.2 ⟨.tmp t, by simpa using hx, rfl⟩))
    simp only [Act.eval, Array.getD_eq_getD_getElem?, this]
  | const v => rfl
  | global g => rfl
  | func f => rfl
theorem wanted_agree {ops : Array Oper} {o : Oper} {a a' : Act} (h : ∀ t ∈ o.looksAt ops, a.tmps[t]? = a'.tmps[t]?) : Region.wanted o (yielded ops a.tmps) = Region.wanted o (yielded ops a'.tmps) := by
  unfold Region.wanted
  cases hg : o.guard with
  | none => rfl
  | some gw =>
    obtain ⟨g, want⟩ := gw
    have hy : yielded ops a.tmps g = yielded ops a'.tmps g := by
      unfold yielded
      cases ht : (ops[g]?).bind (·.dst) with
      | none => rfl
      | some t =>
        have := h t (List.mem_append_right _ (by simp [hg, ht]))
        simp [this]
    simp only [hy]
theorem plain_select {o : Oper} (h : plainOp o = true) : ∀ cs b, o.op ≠ .select cs b := fun cs b e => by unfold plainOp at h; rw [e] at h; cases h
theorem plain_defer {o : Oper} (h : plainOp o = true) : ∀ c, o.op ≠ .defer c := fun c e => by unfold plainOp at h; rw [e] at h; cases h

/-- Normal ends alone. -/
def NQ (K : Act → World → Prop) : Exit → Act → World → Prop
  | .normal, a, w => K a w
  | _, _, _ => False
theorem NQ_out (K : Act → World → Prop) : ¬ LetsOut (NQ K) := fun ⟨_, _, h⟩ => h

/-- What is told of the other letters goes on to hold. -/
def Stab (ls : List Nat) (V : Nat → Value → World → Prop) (i : Nat) (w w' : World) : Prop := ∀ j ∈ ls, j ≠ i → ∀ u, V j u w → V j u w'
/-- What is told of the letters. -/
def Told (V : Nat → Value → World → Prop) (facts : List (Nat × Value)) (w : World) : Prop := ∀ p ∈ facts, V p.1 p.2 w
theorem Told.one {V : Nat → Value → World → Prop} {facts : List (Nat × Value)} {w : World} {i : Nat} {v : Value} (h : Told V ((i, v) :: facts) w) : V i v w := h (i, v) (.head _)
theorem Told.rest {V : Nat → Value → World → Prop} {facts : List (Nat × Value)} {w : World} {p : Nat × Value} (h : Told V (p :: facts) w) : Told V facts w := fun q hq => h q (.tail _ hq)
def ToldTo (ops : Array Oper) (i : Nat) (V : Nat → Value → World → Prop) (facts : List (Nat × Value)) (w : World) : Prop := ∀ p ∈ facts, p.1 ∈ preds ops i → V p.1 p.2 w
theorem ToldTo.get {ops : Array Oper} {i : Nat} {V : Nat → Value → World → Prop} {facts : List (Nat × Value)} {w : World} (h : ToldTo ops i V facts w) (j : Nat) (v : Value) (hf : (j, v) ∈ facts) (hj : (preds ops i).contains j = true) : V j v w := h (j, v) hf (by simpa using hj)
theorem Stab.refl (ls : List Nat) (V : Nat → Value → World → Prop) (i : Nat) (w : World) : Stab ls V i w w := fun _ _ _ _ h => h
theorem Stab.none (V : Nat → Value → World → Prop) (i : Nat) (w w' : World) : Stab [] V i w w' := fun _ h => by cases h
theorem Stab.one (V : Nat → Value → World → Prop) (i : Nat) (w w' : World) : Stab [i] V i w w' := fun j h hne => by cases h with | head => exact absurd rfl hne | tail _ h => cases h
theorem Fx.done {ops : Array Oper} {S : Sem ops} {fl : Nat → Bool} {CA C : World → Prop} {St : Nat → World → World → Prop} {a : Act} {k : Act → Prop} (h : k a) : Fx S fl CA C St [] a k := h
theorem Lt.done {ops : Array Oper} {S : Sem ops} {V : Nat → Value → World → Prop} {CA : World → Prop} {St : Nat → World → World → Prop} {facts : List (Nat × Value)} {a : Act} {k : List (Nat × Value) → Act → Prop} (h : k facts a) : Lt S V CA St [] facts a k := h

/-! ### Plain -/
section
variable (P : Program) (ops : Array Oper)
def upP (R : Value → World → Prop) : Result Next → Prop
  | .ok (.value v) w' => R v w'
  | .ok .skip w' => R undef w'
  | .ok (.enter f args) w' => Calls P f args w' fun e w'' => match e with | .returned v => R v w'' | _ => False
  | .ok (.row r args) w' => Rows P r args w' R
  | _ => False
theorem upP_mono {R R' : Value → World → Prop} (h : ∀ v w', R v w' → R' v w') : ∀ r, upP P R r → upP P R' r
  | .ok (.value _) _, hh => h _ _ hh
  | .ok .skip _, hh => h _ _ hh
  | .ok (.enter _ _) _, hh => Calls.mono hh fun e w'' he => by cases e <;> first | exact h _ _ he | exact he
  | .ok (.row _ _) _, hh => Rows.mono hh h
def semP : Sem ops where
  G o a w R := if Region.wanted o (yielded ops a.tmps) then upP P R ((execOp a.eval o).run P w) else R undef w
  mono h hh := by split at hh <;> rename_i q <;> simp only [q] <;> first | exact upP_mono P h _ hh | exact h _ _ hh
  congr hp ha hh := by
    rw [← wanted_agree ha, ← execOp_congr _ (plain_select hp) (eval_agree ha)]; exact hh

theorem hopP {Q : Exit → Act → World → Prop} (i : Nat) (K : Act → World → Prop) (a : Act) (w : World) (hi : i < ops.size) (h : atOp (semP P ops) i a w (fun v w' => K (a.put (dstOf ops i) v) w')) : wpOp P ops Q i K a w := by
  unfold atOp dstOf at h
  unfold wpOp
  have ho : ops[i]? = some ops[i] := Array.getElem?_eq_getElem hi
  simp only [ho, Option.bind_some] at h ⊢
  generalize ops[i] = o at h ⊢
  simp only [semP] at h
  split
  · rename_i q
    simp only [q, if_true] at h
    refine .inl ?_
    unfold Oper.wp
    generalize (execOp a.eval o).run P w = r at *
    cases r with
    | ok n w' =>
      cases n <;> simp only [upP] at h <;> simp only [Oper.upon] <;> first | exact h | skip
      exact Calls.mono h fun e w'' he => by cases e <;> first | exact he | exact he.elim
    | halt x w' => simp only [upP] at h
  · rename_i q
    simp only [q] at h
    exact h

/-- From the walk's own goal. -/
theorem ofList {o : Oper} {a : Act} {w : World} {T : Act → World → Prop} (hT : ∀ a' w', T a' w' → a'.defers = a.defers) (h : wpList P ops (NQ T) [o] a w) : (semP P ops).G o a w (fun v w' => T (a.put o.dst v) w') := by
  simp only [semP]
  simp only [wpList] at h
  split
  · rename_i q
    simp only [q, if_true] at h
    rcases h with h | h
    · unfold Oper.wp at h
      generalize (execOp a.eval o).run P w = r at *
      cases r with
      | ok n w' =>
        cases n <;> simp only [Oper.upon] at h <;> simp only [upP] <;> first | exact h | skip
        · exact Calls.mono h fun e w'' he => by cases e <;> first | exact he | exact (NQ_out _ he).elim | exact he.elim
        · have := congrArg List.length (hT _ _ h); rw [put_defers] at this; simp at this
      | halt x w' => cases x <;> simp only [Oper.upon] at h <;> exact h.elim
    · exact (NQ_out _ h.2).elim
  · rename_i q
    simp only [q] at h
    exact h

theorem put_inj {a : Act} {t : Tmp} {v u : Value} (ht : t < a.tmps.size) (h : a.put (some t) v = a.put (some t) u) : v = u := by
  have h1 := put_same a v t ht
  rw [h, put_same a u t ht] at h1
  exact (Option.some.inj h1).symm
theorem ofHead {o : Oper} {a : Act} {w : World} {R : Value → World → Prop} (t : Tmp) (hd : o.dst = some t) (ht : t < a.tmps.size) (h : wpList P ops (NQ fun a' w' => ∃ v, a' = a.put o.dst v ∧ R v w') [o] a w) : (semP P ops).G o a w R := by
  refine (semP P ops).mono ?_ (ofList P ops (T := fun a' w' => ∃ v, a' = a.put o.dst v ∧ R v w') ?_ ?_)
  · rintro v w' ⟨u, e, hu⟩
    rw [hd] at e
    rwa [put_inj ht e]
  · rintro a' w' ⟨v, rfl, _⟩; exact put_defers _ _ _
  · exact h

theorem to_wpAny {Q : Exit → Act → World → Prop} : ∀ (f : Nat) (listed : Array Bool) (a : Act) (w : World), anyG (Region.ready .any ops) (wpOp P ops Q) (Q .normal) f listed a w → wpAny P .any ops Q f listed a w
  | 0, _, _, _, h => h
  | f + 1, _, _, _, h => ⟨h.1, fun i hi => wpOp_mono (fun a w h' => to_wpAny f _ a w h') (h.2 i hi)⟩

/-- A REGION THAT DRAWS ITS ORDER. -/
theorem region {id : Nat} {Q : Exit → Act → World → Prop} {a0 : Act} {w : World} (hm : P.follows .mixedOrders = true) (fs ls ts : List Nat) (V : Nat → Value → World → Prop) (CA C : World → Prop)
    (hc : chk ops a0.tmps.size fs ls ts = true) (hCA : ∀ w, CA w → C w) (h0 : CA w.drew)
    (h : Fx (semP P ops) (floats ops ts) CA C (Stab ls V) fs a0 fun a =>
      Lt (semP P ops) V CA (Stab ls V) ls [] a fun facts a => ∀ w, CA w → Told V facts w → Tl (semP P ops) C (Q .normal) ts a w) :
    (Code.region id ops true).wp P Q a0 w :=
  wp_region_any hm (to_wpAny P ops _ _ _ _ (rule (semP P ops) (hopP P ops) (fun _ _ _ _ _ hK => wpOp_mono hK) fs ls ts a0 V CA C (Q .normal) w.drew hc hCA h0 h))

/-- The same, where all that goes ahead of the tail writes no old block. -/
theorem regionB {id : Nat} {Q : Exit → Act → World → Prop} {a0 : Act} {w : World} (hm : P.follows .mixedOrders = true) (fs ls ts : List Nat) (V : Nat → Value → World → Prop) (C : World → Prop)
    (hc : chk ops a0.tmps.size fs ls ts = true) (hC : ∀ w', Below w.heap.size w w' → C w')
    (h : Fx (semP P ops) (floats ops ts) (Below w.heap.size w) C (Stab ls V) fs a0 fun a =>
      Lt (semP P ops) V (Below w.heap.size w) (Stab ls V) ls [] a fun facts a => ∀ w', Below w.heap.size w w' → Told V facts w' → Tl (semP P ops) C (Q .normal) ts a w') :
    (Code.region id ops true).wp P Q a0 w := region P ops hm fs ls ts V (Below w.heap.size w) C hc hC (Below.refl _ w).drew h

variable {P ops} {fl : Nat → Bool} {CA C : World → Prop} {St : Nat → World → World → Prop} {V : Nat → Value → World → Prop}
/-- An operation that runs to one value. -/
theorem Fx.run {i : Nat} {l : List Nat} {a : Act} {k : Act → Prop} {o : Oper} (c : Value) (ho : ops[i]? = some o) (hw : Region.wanted o (yielded ops a.tmps) = true) (h : ∀ w, C w → (execOp a.eval o).run P w = .ok (.value c) w)
    (hk : Fx (semP P ops) fl CA C St l (a.put o.dst c) k) : Fx (semP P ops) fl CA C St (i :: l) a k := by
  refine ⟨c, .inl fun w hC => ?_, by unfold dstOf; rw [ho]; exact hk⟩
  unfold atOp; simp only [ho, semP, hw, if_true, h w hC, upP]
  exact ⟨trivial, trivial⟩
/-- A load that must come ahead of the tail. -/
theorem Fx.load {i : Nat} {l : List Nat} {a : Act} {k : Act → Prop} {o : Oper} (c : Value) (ho : ops[i]? = some o) (hf : fl i = false) (hw : Region.wanted o (yielded ops a.tmps) = true) (hS : ∀ w, St i w w) (h : ∀ w, CA w → (execOp a.eval o).run P w = .ok (.value c) w)
    (hk : Fx (semP P ops) fl CA C St l (a.put o.dst c) k) : Fx (semP P ops) fl CA C St (i :: l) a k := by
  refine ⟨c, .inr ⟨hf, fun w hC => ?_⟩, by unfold dstOf; rw [ho]; exact hk⟩
  unfold atOp; simp only [ho, semP, hw, if_true, h w hC, upP]
  exact ⟨trivial, hC, hS w⟩
/-- A call that hands back one value. -/
theorem Fx.call {i : Nat} {l : List Nat} {a : Act} {k : Act → Prop} {o : Oper} (c : Value) (t : Tmp) (ho : ops[i]? = some o) (hd : o.dst = some t) (ht : t < a.tmps.size) (hf : fl i = false)
    (h : ∀ w, CA w → wpList P ops (NQ fun a' w' => ∃ v, a' = a.put o.dst v ∧ v = c ∧ CA w' ∧ St i w w') [o] a w)
    (hk : Fx (semP P ops) fl CA C St l (a.put o.dst c) k) : Fx (semP P ops) fl CA C St (i :: l) a k := by
  refine ⟨c, .inr ⟨hf, fun w hC => ?_⟩, by unfold dstOf; rw [ho]; exact hk⟩
  unfold atOp; simp only [ho]
  exact ofHead P ops t hd ht (h w hC)
theorem Lt.step {i : Nat} {l : List Nat} {facts : List (Nat × Value)} {a : Act} {k : List (Nat × Value) → Act → Prop} {o : Oper} (t : Tmp) (ho : ops[i]? = some o) (hd : o.dst = some t) (ht : t < a.tmps.size)
    (h : ∀ w, CA w → ToldTo ops i V facts w → wpList P ops (NQ fun a' w' => ∃ v, a' = a.put o.dst v ∧ V i v w' ∧ CA w' ∧ St i w w') [o] a w)
    (hk : ∀ v, Lt (semP P ops) V CA St l ((i, v) :: facts) (a.put o.dst v) k) : Lt (semP P ops) V CA St (i :: l) facts a k := by
  refine ⟨fun w hw hp => ?_, fun v => by unfold dstOf; rw [ho]; exact hk v⟩
  unfold atOp; simp only [ho]
  exact ofHead P ops t hd ht (h w hw hp)
theorem Tl.last {Kn : Act → World → Prop} {i : Nat} {a : Act} {w : World} {o : Oper} (ho : ops[i]? = some o) (h : wpList P ops (NQ fun a' w' => a'.defers = a.defers ∧ Kn a' w') [o] a w) : Tl (semP P ops) C Kn [i] a w := by
  unfold Tl atOp dstOf; simp only [ho, Option.bind_some]
  refine (semP P ops).mono ?_ (ofList P ops (T := fun a' w' => a'.defers = a.defers ∧ Kn a' w') (fun _ _ h => h.1) h)
  exact fun v w' hh => ⟨.inl trivial, hh.2⟩
theorem Tl.step {Kn : Act → World → Prop} {i j : Nat} {l : List Nat} {a : Act} {w : World} {o : Oper} (ho : ops[i]? = some o) (h : wpList P ops (NQ fun a' w' => a'.defers = a.defers ∧ C w' ∧ Tl (semP P ops) C Kn (j :: l) a' w') [o] a w) : Tl (semP P ops) C Kn (i :: j :: l) a w := by
  show atOp _ _ _ _ _
  unfold atOp dstOf; simp only [ho, Option.bind_some]
  refine (semP P ops).mono ?_ (ofList P ops (T := fun a' w' => a'.defers = a.defers ∧ C w' ∧ Tl (semP P ops) C Kn (j :: l) a' w') (fun _ _ h => h.1) h)
  exact fun v w' hh => ⟨.inr hh.2.1, hh.2.2⟩
end

/-! ### Inside a fence -/
section
variable (F : Fence) (n : Nat) (P : Program) (ops : Array Oper)
def upI (R : Value → World → Prop) : Result Next → Prop
  | .ok (.value v) w' => R v w'
  | .ok .skip w' => R undef w'
  | .ok (.enter f args) w' => (F.depth.isSome = true → 1 ≤ n) ∧ CallsIn F (n - 1) P f args w' fun e w'' => match e with | .returned v => R v w'' | _ => False
  | .ok (.row r args) w' => (F.depth.isSome = true → 1 ≤ n) ∧ RowsIn F (n - 1) P r args w' R
  | .ok (.round l f tmps assign body) w' => (F.depth.isSome = true → 1 ≤ n) ∧ RoundIn F (n - 1) P l f tmps assign body w' fun e w'' => match e with | .returned v => R v w'' | _ => False
  | _ => False
theorem upI_mono {R R' : Value → World → Prop} (h : ∀ v w', R v w' → R' v w') : ∀ r, upI F n P R r → upI F n P R' r
  | .ok (.value _) _, hh => h _ _ hh
  | .ok .skip _, hh => h _ _ hh
  | .ok (.enter _ _) _, hh => ⟨hh.1, CallsIn.mono hh.2 fun e w'' he => by cases e <;> first | exact h _ _ he | exact he⟩
  | .ok (.row _ _) _, hh => ⟨hh.1, RowsIn.mono hh.2 h⟩
  | .ok (.round _ _ _ _ _) _, hh => ⟨hh.1, RoundIn.mono hh.2 fun e w'' he => by cases e <;> first | exact h _ _ he | exact he⟩
def semI : Sem ops where
  G o a w R := (∀ f, o.about P w a.eval = some f → F.fn f) ∧ if Region.wanted o (yielded ops a.tmps) then upI F n P R ((o.semAt F.round a.eval).run P w) else R undef w
  mono h hh := by
    refine ⟨hh.1, ?_⟩
    have hh := hh.2
    split at hh <;> rename_i q <;> simp only [q] <;> first | exact upI_mono F n P h _ hh | exact h _ _ hh
  congr hp ha hh := by
    rw [← wanted_agree ha, ← about_congr _ _ (eval_agree ha), Oper.semAt_eq _ _ _ (plain_defer hp), ← execOp_congr _ (plain_select hp) (eval_agree ha), ← Oper.semAt_eq F.round _ _ (plain_defer hp)]; exact hh

theorem hopI {Q : Exit → Act → World → Prop} (i : Nat) (K : Act → World → Prop) (a : Act) (w : World) (hi : i < ops.size) (h : atOp (semI F n P ops) i a w (fun v w' => K (a.put (dstOf ops i) v) w')) : wpOpIn F n P ops Q i K a w := by
  unfold atOp dstOf at h
  unfold wpOpIn
  have ho : ops[i]? = some ops[i] := Array.getElem?_eq_getElem hi
  simp only [ho, Option.bind_some] at h ⊢
  generalize ops[i] = o at h ⊢
  simp only [semI] at h
  obtain ⟨h0, h⟩ := h
  split
  · rename_i q
    simp only [q, if_true] at h
    refine ⟨h0, ?_⟩
    generalize (o.semAt F.round a.eval).run P w = r at *
    cases r with
    | ok x w' =>
      cases x <;> simp only [upI] at h <;> simp only [Oper.uponIn] <;> first | exact h | skip
      · exact ⟨h.1, CallsIn.mono h.2 fun e w'' he => by cases e <;> first | exact he | exact he.elim⟩
      · exact ⟨h.1, RoundIn.mono h.2 fun e w'' he => by cases e <;> first | exact he | exact he.elim⟩
    | halt x w' => simp only [upI] at h
  · rename_i q
    simp only [q] at h
    exact ⟨h0, h⟩

theorem ofListIn {o : Oper} {a : Act} {w : World} {T : Act → World → Prop} (hT : ∀ a' w', T a' w' → a'.defers = a.defers) (h : wpListIn F n P ops (NQ T) [o] a w) : (semI F n P ops).G o a w (fun v w' => T (a.put o.dst v) w') := by
  simp only [semI]
  simp only [wpListIn] at h
  split
  · rename_i q
    simp only [q, if_true] at h
    unfold Oper.wpIn at h
    refine ⟨h.1, ?_⟩
    have h := h.2
    generalize (o.semAt F.round a.eval).run P w = r at *
    cases r with
    | ok x w' =>
      cases x <;> simp only [Oper.uponIn] at h <;> simp only [upI] <;> first | exact h | skip
      · exact ⟨h.1, CallsIn.mono h.2 fun e w'' he => by cases e <;> first | exact he | exact (NQ_out _ he).elim | exact he.elim⟩
      · exact ⟨h.1, RoundIn.mono h.2 fun e w'' he => by cases e <;> first | exact he | exact (NQ_out _ he).elim | exact he.elim⟩
      · have := congrArg List.length (hT _ _ h); rw [put_defers] at this; simp at this
    | halt x w' => cases x <;> simp only [Oper.uponIn] at h <;> exact h.elim
  · rename_i q
    simp only [q] at h
    exact h

theorem ofHeadIn {o : Oper} {a : Act} {w : World} {R : Value → World → Prop} (t : Tmp) (hd : o.dst = some t) (ht : t < a.tmps.size) (h : wpListIn F n P ops (NQ fun a' w' => ∃ v, a' = a.put o.dst v ∧ R v w') [o] a w) : (semI F n P ops).G o a w R := by
  refine (semI F n P ops).mono ?_ (ofListIn F n P ops (T := fun a' w' => ∃ v, a' = a.put o.dst v ∧ R v w') ?_ ?_)
  · rintro v w' ⟨u, e, hu⟩
    rw [hd] at e
    rwa [put_inj ht e]
  · rintro a' w' ⟨v, rfl, _⟩; exact put_defers _ _ _
  · exact h

theorem to_wpAnyIn {Q : Exit → Act → World → Prop} : ∀ (f : Nat) (listed : Array Bool) (a : Act) (w : World), anyG (Region.ready .any ops) (wpOpIn F n P ops Q) (Q .normal) f listed a w → wpAnyIn F n P .any ops Q f listed a w
  | 0, _, _, _, h => h
  | f + 1, _, _, _, h => ⟨h.1, fun i hi => wpOpIn_mono (fun a w h' => to_wpAnyIn f _ a w h') (h.2 i hi)⟩

/-- A REGION THAT DRAWS ITS ORDER, inside a fence (in a round too). -/
theorem regionIn {id : Nat} {Q : Exit → Act → World → Prop} {a0 : Act} {w : World} (hm : P.follows .mixedOrders = true) (fs ls ts : List Nat) (V : Nat → Value → World → Prop) (CA C : World → Prop)
    (hc : chk ops a0.tmps.size fs ls ts = true) (hCA : ∀ w, CA w → C w) (h0 : CA w.drew)
    (h : Fx (semI F n P ops) (floats ops ts) CA C (Stab ls V) fs a0 fun a =>
      Lt (semI F n P ops) V CA (Stab ls V) ls [] a fun facts a => ∀ w, CA w → Told V facts w → Tl (semI F n P ops) C (Q .normal) ts a w) :
    (Code.region id ops true).wpIn F n P Q a0 w :=
  wpIn_region_any hm (to_wpAnyIn F n P ops _ _ _ _ (rule (semI F n P ops) (hopI F n P ops) (fun _ _ _ _ _ hK => wpOpIn_mono hK) fs ls ts a0 V CA C (Q .normal) w.drew hc hCA h0 h))

theorem regionBIn {id : Nat} {Q : Exit → Act → World → Prop} {a0 : Act} {w : World} (hm : P.follows .mixedOrders = true) (fs ls ts : List Nat) (V : Nat → Value → World → Prop) (C : World → Prop)
    (hc : chk ops a0.tmps.size fs ls ts = true) (hC : ∀ w', Below w.heap.size w w' → C w')
    (h : Fx (semI F n P ops) (floats ops ts) (Below w.heap.size w) C (Stab ls V) fs a0 fun a =>
      Lt (semI F n P ops) V (Below w.heap.size w) (Stab ls V) ls [] a fun facts a => ∀ w', Below w.heap.size w w' → Told V facts w' → Tl (semI F n P ops) C (Q .normal) ts a w') :
    (Code.region id ops true).wpIn F n P Q a0 w := regionIn F n P ops hm fs ls ts V (Below w.heap.size w) C hc hC (Below.refl _ w).drew h

variable {F n P ops} {fl : Nat → Bool} {CA C : World → Prop} {St : Nat → World → World → Prop} {V : Nat → Value → World → Prop}
theorem Fx.runIn {i : Nat} {l : List Nat} {a : Act} {k : Act → Prop} {o : Oper} (c : Value) (ho : ops[i]? = some o) (hp : plainOp o = true) (hcall : (match o.op with | .call .. => false | _ => true) = true) (hw : Region.wanted o (yielded ops a.tmps) = true) (h : ∀ w, C w → (execOp a.eval o).run P w = .ok (.value c) w)
    (hk : Fx (semI F n P ops) fl CA C St l (a.put o.dst c) k) : Fx (semI F n P ops) fl CA C St (i :: l) a k := by
  refine ⟨c, .inl fun w hC => ?_, by unfold dstOf; rw [ho]; exact hk⟩
  unfold atOp; simp only [ho, semI, hw, if_true]
  rw [Oper.semAt_eq _ _ _ (plain_defer hp), h w hC]
  refine ⟨fun f hf => ?_, rfl, rfl⟩
  unfold Oper.about at hf
  split at hf
  · rename_i c' e; rw [e] at hcall; cases hcall
  · cases hf
theorem Fx.loadIn {i : Nat} {l : List Nat} {a : Act} {k : Act → Prop} {o : Oper} (c : Value) (ho : ops[i]? = some o) (hf : fl i = false) (hp : plainOp o = true) (hcall : (match o.op with | .call .. => false | _ => true) = true) (hw : Region.wanted o (yielded ops a.tmps) = true) (hS : ∀ w, St i w w) (h : ∀ w, CA w → (execOp a.eval o).run P w = .ok (.value c) w)
    (hk : Fx (semI F n P ops) fl CA C St l (a.put o.dst c) k) : Fx (semI F n P ops) fl CA C St (i :: l) a k := by
  refine ⟨c, .inr ⟨hf, fun w hC => ?_⟩, by unfold dstOf; rw [ho]; exact hk⟩
  unfold atOp; simp only [ho, semI, hw, if_true]
  rw [Oper.semAt_eq _ _ _ (plain_defer hp), h w hC]
  refine ⟨fun f hf => ?_, rfl, hC, hS w⟩
  unfold Oper.about at hf
  split at hf
  · rename_i c' e; rw [e] at hcall; cases hcall
  · cases hf
theorem Fx.callIn {i : Nat} {l : List Nat} {a : Act} {k : Act → Prop} {o : Oper} (c : Value) (t : Tmp) (ho : ops[i]? = some o) (hd : o.dst = some t) (ht : t < a.tmps.size) (hf : fl i = false)
    (h : ∀ w, CA w → wpListIn F n P ops (NQ fun a' w' => ∃ v, a' = a.put o.dst v ∧ v = c ∧ CA w' ∧ St i w w') [o] a w)
    (hk : Fx (semI F n P ops) fl CA C St l (a.put o.dst c) k) : Fx (semI F n P ops) fl CA C St (i :: l) a k := by
  refine ⟨c, .inr ⟨hf, fun w hC => ?_⟩, by unfold dstOf; rw [ho]; exact hk⟩
  unfold atOp; simp only [ho]
  exact ofHeadIn F n P ops t hd ht (h w hC)
theorem Lt.stepIn {i : Nat} {l : List Nat} {facts : List (Nat × Value)} {a : Act} {k : List (Nat × Value) → Act → Prop} {o : Oper} (t : Tmp) (ho : ops[i]? = some o) (hd : o.dst = some t) (ht : t < a.tmps.size)
    (h : ∀ w, CA w → ToldTo ops i V facts w → wpListIn F n P ops (NQ fun a' w' => ∃ v, a' = a.put o.dst v ∧ V i v w' ∧ CA w' ∧ St i w w') [o] a w)
    (hk : ∀ v, Lt (semI F n P ops) V CA St l ((i, v) :: facts) (a.put o.dst v) k) : Lt (semI F n P ops) V CA St (i :: l) facts a k := by
  refine ⟨fun w hw hp => ?_, fun v => by unfold dstOf; rw [ho]; exact hk v⟩
  unfold atOp; simp only [ho]
  exact ofHeadIn F n P ops t hd ht (h w hw hp)
theorem Tl.lastIn {Kn : Act → World → Prop} {i : Nat} {a : Act} {w : World} {o : Oper} (ho : ops[i]? = some o) (h : wpListIn F n P ops (NQ fun a' w' => a'.defers = a.defers ∧ Kn a' w') [o] a w) : Tl (semI F n P ops) C Kn [i] a w := by
  unfold Tl atOp dstOf; simp only [ho, Option.bind_some]
  refine (semI F n P ops).mono ?_ (ofListIn F n P ops (T := fun a' w' => a'.defers = a.defers ∧ Kn a' w') (fun _ _ h => h.1) h)
  exact fun v w' hh => ⟨.inl trivial, hh.2⟩
theorem Tl.stepIn {Kn : Act → World → Prop} {i j : Nat} {l : List Nat} {a : Act} {w : World} {o : Oper} (ho : ops[i]? = some o) (h : wpListIn F n P ops (NQ fun a' w' => a'.defers = a.defers ∧ C w' ∧ Tl (semI F n P ops) C Kn (j :: l) a' w') [o] a w) : Tl (semI F n P ops) C Kn (i :: j :: l) a w := by
  show atOp _ _ _ _ _
  unfold atOp dstOf; simp only [ho, Option.bind_some]
  refine (semI F n P ops).mono ?_ (ofListIn F n P ops (T := fun a' w' => a'.defers = a.defers ∧ C w' ∧ Tl (semI F n P ops) C Kn (j :: l) a' w') (fun _ _ h => h.1) h)
  exact fun v w' hh => ⟨.inr hh.2.1, hh.2.2⟩
/-- An operation that its guard does not want. -/
theorem Fx.skipIn {i : Nat} {l : List Nat} {a : Act} {k : Act → Prop} {o : Oper} (ho : ops[i]? = some o) (hw : Region.wanted o (yielded ops a.tmps) = false) (hF : ∀ f, F.fn f)
    (hk : Fx (semI F n P ops) fl CA C St l (a.put o.dst undef) k) : Fx (semI F n P ops) fl CA C St (i :: l) a k := by
  refine ⟨undef, .inl fun w hC => ?_, by unfold dstOf; rw [ho]; exact hk⟩
  unfold atOp; simp only [ho, semI, hw]
  exact ⟨fun f _ => hF f, by simp⟩
end

attribute [irreducible] Tl Fx Lt

end Rely
end Go.Proofs.YtgacdmkhgllceaaGreatDoor
