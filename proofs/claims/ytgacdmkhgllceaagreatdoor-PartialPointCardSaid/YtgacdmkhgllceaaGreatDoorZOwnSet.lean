/- An element of a row of the call's own set anew. -/
import Derived.Test.YtgacdmkhgllceaaGreatDoorZEnc1
namespace Go.Proofs.YtgacdmkhgllceaaGreatDoor
open Go.RowKit

theorem own_row {W : World} {base : Nat} {v : Value} {es : List Quad} (h : OwnOf 96 4 encQ W base v es) (hne : 0 < es.length) :
    ∃ gl cap cur, v = .slice (some ⟨gl, 0, none⟩) es.length cap ∧ base ≤ gl ∧ W.heap[gl]? = some (.cells cur 96 (0, 0)) ∧ es.length ≤ cap ∧ cap ≤ maxLen ∧ cur.size = cap * 4 ∧ cur.toList.take (es.length * 4) = es.flatMap encQ := by
  rcases h.2 with ⟨h1, h2⟩ | ⟨gl, cap, cur, h1, h2, h3, h4, h5, h6, h7⟩
  · rw [h2] at hne; exact absurd hne (Nat.lt_irrefl _)
  · exact ⟨gl, cap, cur, h1, h2, h3, h4, h5, h6, h7⟩
theorem flatQ_len (es : List Quad) : (es.flatMap encQ).length = es.length * 4 := by
  induction es with
  | nil => rfl
  | cons q l ih => simp only [List.flatMap_cons, List.length_append, ih, List.length_cons, List.length_nil]; omega
/-- The last element set anew. -/
theorem own_set {W' : World} {base gl cap : Nat} {cur : Array Value} {es : List Quad} {q0 q : Quad} (h2 : base ≤ gl) (h4 : (es ++ [q0]).length ≤ cap) (h5 : cap ≤ maxLen) (h6 : cur.size = cap * 4)
    (h7 : cur.toList.take ((es ++ [q0]).length * 4) = (es ++ [q0]).flatMap encQ)
    (hW : W'.heap[gl]? = some (.cells (cur.toList.take (es.length * 4) ++ [q.a, q.b, q.c, q.d] ++ cur.toList.drop (es.length * 4 + 4)).toArray 96 (0, 0))) :
    OwnOf 96 4 encQ W' base (.slice (some ⟨gl, 0, none⟩) (es ++ [q]).length cap) (es ++ [q]) := by
  have hl : (es ++ [q0]).length = es.length + 1 := by simp
  have hl2 : (es ++ [q]).length = es.length + 1 := by simp
  rw [hl] at h4 h7
  have hT : cur.toList.take (es.length * 4) = es.flatMap encQ := by
    have := congrArg (List.take (es.length * 4)) h7
    rw [List.take_take, Nat.min_eq_left (by omega), List.flatMap_append] at this
    rw [this, List.take_left' (by rw [flatQ_len])]
  refine ⟨?_, .inr ⟨gl, cap, _, rfl, h2, hW, by rw [hl2]; exact h4, h5, ?_, ?_⟩⟩
  · rw [flatQ_len]
  · simp only [List.size_toArray, List.length_append, List.length_take, List.length_drop, Array.length_toList, List.length_cons, List.length_nil, h6]
    omega
  · rw [hT, List.flatMap_append, hl2]
    show List.take _ (es.flatMap encQ ++ encQ q ++ _) = es.flatMap encQ ++ ([q].flatMap encQ)
    have e : ([q].flatMap encQ) = encQ q := by simp
    rw [e]
    exact List.take_left' (by rw [List.length_append, flatQ_len]; show _ + 4 = _; omega)

theorem info1_val : (Tryz.prog.info? 96).map (·.size) = some 4 := by kernel_rfl
theorem wpList_storeQ {ops : Array Oper} {rest : List Oper} {o : Oper} {a : Act} {Q : Exit → Act → World → Prop} {W : World} (hgd : o.guard = none) (p x : Operand) (ho : o.op = .store 96 p x) (g off : Nat) (cur : Array Value) (t : TypeId) (q : Quad)
    (hp : a.eval p = .pointer (some ⟨g, off, none⟩)) (hx : a.eval x = .agg #[q.a, q.b, q.c, q.d]) (hrow : W.heap[g]? = some (.cells cur t (0, 0))) (hs : off + 4 ≤ cur.size) (h1 : ∀ u ∈ [q.a, q.b, q.c, q.d], u.oneCell' = true)
    (hk : ∀ W', Hid (W'.heap[g]? = some (.cells (cur.toList.take off ++ [q.a, q.b, q.c, q.d] ++ cur.toList.drop (off + 4)).toArray t (0, 0))) → Same (fun k => k ≠ g) W W' → W'.heap.size = W.heap.size → wpList Tryz.prog ops Q rest (a.put o.dst undef) W') : wpList Tryz.prog ops Q (o :: rest) a W := by
  refine wpList_plain hgd fun K hK => ?_
  have hrun : (storeVar 96 ⟨g, off, none⟩ (.agg #[q.a, q.b, q.c, q.d])).run Tryz.prog W = .ok () (W.setRow g (cur.toList.take off ++ [q.a, q.b, q.c, q.d] ++ cur.toList.drop (off + 4)).toArray) := by
    have h := run_storeCells_at Tryz.prog g off t [q.a, q.b, q.c, q.d] 0 cur W hrow (by simpa using hs) h1
    simp only [Go.storeVar, Sem.run_bind, size_val, Result.andThen_ok]
    exact h
  have hk2 := hk _ (Lib.hid (setRow_heap W g cur _ t (0, 0) hrow)) ⟨rfl, rfl, rfl, by simp [World.setRow], fun i _ hi => setRow_other W g i _ hi⟩ (by simp [World.setRow])
  clear hk
  generalize W.setRow g (cur.toList.take off ++ [q.a, q.b, q.c, q.d] ++ cur.toList.drop (off + 4)).toArray = W' at *
  unfold Oper.wp
  simp [execOp, ho, hp, hx, Instr.storeAt, Instr.sureAddr, hrun, Result.andThen]
  exact hK _ _ hk2

end Go.Proofs.YtgacdmkhgllceaaGreatDoor
