/- The rule for a region that draws its order, with a tail of several chains. -/
import Derived.Test.YtgacdmkhgllceaaGreatDoorZRely
namespace Go.Proofs.YtgacdmkhgllceaaGreatDoor.Rely
open Go.RowKit

def headB (ops : Array Oper) : List Nat → Bool
  | [] => true
  | t :: r => r.all fun i => (preds ops i).contains t
theorem headB_spec {ops : Array Oper} {ts : List Nat} (h : headB ops ts = true) : ∀ t r, ts = t :: r → ∀ i ∈ r, t ∈ preds ops i := by
  rintro t r rfl i hi
  have := List.all_eq_true.1 h i hi; simpa using this
def chk2 (ops : Array Oper) (size : Nat) (fs ls ts : List Nat) : Bool :=
  nodupB (fs ++ ls ++ ts) && (List.range ops.size).all (fun i => (fs ++ ls ++ ts).contains i) && (fs ++ ls ++ ts).all (fun i => decide (i < ops.size)) &&
  (List.range ops.size).all (fun i => (List.range ops.size).all fun j => i == j || dstOf ops i == none || dstOf ops i != dstOf ops j) &&
  ops.toList.all plainOp && orderB ops [] (fs ++ ls ++ ts) && headB ops ts &&
  (List.range ops.size).all (fun i => (preds ops i).all fun j => decide (j < i)) &&
  (match ts.getLast? with | none => true | some t => fs.all (mark ops t (preds ops t)).contains) && ls.all (fun i => !floats ops ts i) && (fs ++ ls).all (fun i => match dstOf ops i with | some t => decide (t < size) | none => false)


structure Chk2 (ops : Array Oper) (size : Nat) (fs ls ts : List Nat) : Prop where
  nodup : (fs ++ ls ++ ts).Nodup
  all : ∀ i, i < ops.size → i ∈ fs ++ ls ++ ts
  lt : ∀ i ∈ fs ++ ls ++ ts, i < ops.size
  distinct : ∀ i j t, dstOf ops i = some t → dstOf ops j = some t → i = j
  plain : ∀ (i : Nat) o, ops[i]? = some o → plainOp o = true
  order : ∀ pre i post, fs ++ ls ++ ts = pre ++ i :: post → ∀ t ∈ looks ops i, ∀ j, dstOf ops j = some t → (j ∈ preds ops i ∧ j ∈ pre) ∨ (i ∈ preds ops j ∧ j ∉ pre)
  head : ∀ t r, ts = t :: r → ∀ i ∈ r, t ∈ preds ops i
  back : ∀ i, ∀ j ∈ preds ops i, j < i
  last : ∀ t, ts.getLast? = some t → ∀ i ∈ fs, i ∈ mark ops t (preds ops t)
  fixed : ∀ i ∈ ls, floats ops ts i = false
  dst : ∀ i ∈ fs ++ ls, ∃ t, dstOf ops i = some t ∧ t < size

theorem chk2_spec {ops : Array Oper} {size : Nat} {fs ls ts : List Nat} (h : chk2 ops size fs ls ts = true) : Chk2 ops size fs ls ts := by
  simp only [chk2, Bool.and_eq_true] at h
  obtain ⟨⟨⟨⟨⟨⟨⟨⟨⟨⟨h1, h2⟩, h3⟩, h4⟩, h5⟩, h6⟩, h7⟩, h8⟩, hl⟩, h9⟩, h10⟩ := h
  refine ⟨nodupB_spec _ h1, fun i hi => ?_, fun i hi => ?_, fun i j t hi hj => ?_, fun i o ho => ?_, fun pre i post e t ht j hj => ?_, headB_spec h7, fun i j hj => ?_, fun t ht i hi => ?_, fun i hi => ?_, fun i hi => ?_⟩
  · have := List.all_eq_true.1 h2 i (List.mem_range.2 hi); simpa using this
  · have := List.all_eq_true.1 h3 i hi; simpa using this
  · have := List.all_eq_true.1 (List.all_eq_true.1 h4 i (List.mem_range.2 (dst_lt hi))) j (List.mem_range.2 (dst_lt hj))
    rw [hi, hj] at this
    simp at this
    exact this
  · obtain ⟨hl, rfl⟩ := Array.getElem?_eq_some_iff.1 ho
    exact List.all_eq_true.1 h5 _ (by simp)
  · have := orderB_spec _ _ h6 pre i post e t ht j hj; simpa using this
  · have := List.all_eq_true.1 (List.all_eq_true.1 h8 i (List.mem_range.2 (preds_lt hj))) j hj; simpa using this
  · rw [ht] at hl
    have := List.all_eq_true.1 hl i hi; simpa using this
  · have := List.all_eq_true.1 h9 i hi; simpa using this
  · have := List.all_eq_true.1 h10 i hi
    split at this
    · rename_i t ht; exact ⟨t, ht, by simpa using this⟩
    · cases this


section
variable {ops : Array Oper} (S : Sem ops)
/-- A tail whose orders are not forced: each that may come next. -/
def Tg (C : World → Prop) (Kn : Act → World → Prop) : Nat → List Nat → Act → World → Prop
  | 0, _, a, w => Kn a w
  | n + 1, rem, a, w => ∀ i ∈ rem, (∀ j ∈ preds ops i, j ∉ rem) → atOp S i a w (fun v w' => (n = 0 ∨ C w') ∧ Tg C Kn n (rem.erase i) (a.put (dstOf ops i) v) w')
theorem Tg_perm (C : World → Prop) (Kn : Act → World → Prop) : ∀ (n : Nat) {l l' : List Nat} {a : Act} {w : World}, l.Perm l' → Tg S C Kn n l a w → Tg S C Kn n l' a w
  | 0, _, _, _, _, _, h => h
  | n + 1, l, l', a, w, hp, h => fun i hi hf => by
    refine atOp_mono S ?_ (h i (hp.mem_iff.2 hi) fun j hj hl => hf j hj (hp.mem_iff.1 hl))
    rintro v w' ⟨h1, h2⟩
    exact ⟨h1, Tg_perm C Kn n (hp.erase i) h2⟩

structure Inv2 (fs ls ts : List Nat) (a0 : Act) (cf : Nat → Value) (V : Nat → Value → World → Prop) (CA C : World → Prop) (Kn : Act → World → Prop) (listed : Array Bool) (a : Act) (w : World) : Prop where
  size : listed.size = ops.size
  closed : ∀ i, listed.getD i false = true → ∀ j ∈ preds ops i, listed.getD j false = true
  rest : ∃ v : Nat → Value, View ops a0 listed v a ∧ (∀ i ∈ fs, v i = cf i) ∧ ∃ dn rem : List Nat, (dn ++ rem).Perm ts ∧ (∀ i ∈ ts, (listed.getD i false = true ↔ i ∈ dn)) ∧
    ((dn = [] ∧ CA w ∧ ∀ j ∈ ls, listed.getD j false = true → V j (v j) w) ∨
     (dn ≠ [] ∧ (rem ≠ [] → C w) ∧ (∀ i ∈ ls, listed.getD i false = true) ∧ (∀ i ∈ fs, floats ops ts i = false → listed.getD i false = true) ∧ Tg S C Kn rem.length rem (frame ops v (fs ++ ls ++ dn) a0) w))

theorem inv_step2 {fs ls ts : List Nat} {a0 : Act} {cf : Nat → Value} {V : Nat → Value → World → Prop} {CA C : World → Prop} {Kn : Act → World → Prop} (hk : Chk2 ops a0.tmps.size fs ls ts) (hCA : ∀ w, CA w → C w)
    (hF : ∀ pre i post, fs = pre ++ i :: post → ((∀ w, C w → atOp S i (frame ops cf pre a0) w (fun v w' => v = cf i ∧ w' = w)) ∨
      (floats ops ts i = false ∧ ∀ w, CA w → atOp S i (frame ops cf pre a0) w (fun v w' => v = cf i ∧ CA w' ∧ ∀ j ∈ ls, j ≠ i → ∀ u, V j u w → V j u w'))))
    (hL : ∀ v : Nat → Value, (∀ i ∈ fs, v i = cf i) → (∀ pre i post, ls = pre ++ i :: post → ∀ w, CA w → (∀ j ∈ preds ops i, j ∈ ls → V j (v j) w) → atOp S i (frame ops v (fs ++ pre) a0) w (fun u w' => V i u w' ∧ CA w' ∧ ∀ j ∈ ls, j ≠ i → ∀ x, V j x w → V j x w')) ∧
      ∀ w, CA w → (∀ j ∈ ls, V j (v j) w) → Tg S C Kn ts.length ts (frame ops v (fs ++ ls) a0) w)
    {listed : Array Bool} {a : Act} {w : World} (h : Inv2 S fs ls ts a0 cf V CA C Kn listed a w) {i : Nat} (hi : i ∈ Region.ready .any ops listed) :
    atOp S i a w (fun u w' => Inv2 S fs ls ts a0 cf V CA C Kn (listed.setIfInBounds i true) (a.put (dstOf ops i) u) w') := by
  obtain ⟨hlt, hun, hpre⟩ := ready_preds hi
  obtain ⟨hsz, hcl, v, hv, hvf, dn, rem, hpm, hkt, hst⟩ := h
  have hun' := getD_false (by rw [hsz]; exact hlt) hun
  have hil : i < listed.size := by rw [hsz]; exact hlt
  have hcl' : ∀ m, (listed.setIfInBounds i true).getD m false = true → ∀ j ∈ preds ops m, (listed.setIfInBounds i true).getD j false = true := fun m hm j hj => by
    by_cases e : m = i
    · subst e; exact getD_set_true (hpre j hj)
    · rw [getD_set_ne false (Ne.symm e)] at hm; exact getD_set_true (hcl m hm j hj)
  have agree : ∀ (pre post : List Nat), fs ++ ls ++ ts = pre ++ i :: post → ∀ t ∈ looks ops i, (frame ops v pre a0).tmps[t]? = a.tmps[t]? := fun pre post e t ht =>
    (hv.agree hk.distinct pre t fun j hj => by
      rcases hk.order pre i post e t ht j hj with ⟨h1, h2⟩ | ⟨h1, h2⟩
      · exact .inl ⟨hpre j h1, h2⟩
      · refine .inr ⟨?_, h2⟩
        cases hlj : listed.getD j false with
        | false => rfl
        | true => have := hcl j hlj i h1; rw [this] at hun'; cases hun').symm
  have hvput : ∀ u, View ops a0 (listed.setIfInBounds i true) (fun j => if j = i then u else v j) (a.put (dstOf ops i) u) := fun u => by
    have := hv.put (v' := fun j => if j = i then u else v j) hk.distinct hil (fun j hj _ => by simp [hj])
    simpa using this
  rcases List.mem_append.1 (hk.all i hlt) with hi1 | hi1
  · rcases List.mem_append.1 hi1 with hi2 | hi2
    · -- fixed
      obtain ⟨pre, post, e⟩ := split_at hi2
      obtain ⟨hnl, hnt⟩ := (mem_parts hk.nodup).1 hi2
      have hfr : frame ops cf pre a0 = frame ops v pre a0 := frame_congr ops pre a0 fun j hj => (hvf j (by rw [e]; exact List.mem_append_left _ hj)).symm
      have hag := agree pre (post ++ ls ++ ts) (by rw [e]; simp)
      have hkt' : ∀ m ∈ ts, ((listed.setIfInBounds i true).getD m false = true ↔ m ∈ dn) := fun m hm => by
        rw [getD_set_ne false (fun (e : i = m) => hnt (e ▸ hm))]; exact hkt m hm
      rcases hF pre i post e with h1 | ⟨hfl, h1⟩
      · have hC2 : C w := by
          rcases hst with ⟨_, h2, _⟩ | ⟨h0, h2, _⟩
          · exact hCA w h2
          · by_cases q : rem = []
            · exfalso
              have hne : ts ≠ [] := by
                intro e; rw [e, q, List.append_nil] at hpm
                exact h0 hpm.eq_nil
              obtain ⟨t, ht⟩ : ∃ t, ts.getLast? = some t := by rw [List.getLast?_eq_some_getLast hne]; exact ⟨_, rfl⟩
              have htm : t ∈ ts := List.mem_of_getLast? ht
              have hl := (hkt t htm).2 (by have := hpm.mem_iff.2 htm; rw [q, List.append_nil] at this; exact this)
              have := mark_listed hcl t _ (hcl t hl) i (hk.last t ht i hi2)
              rw [this] at hun'; cases hun'
            · exact h2 q
        rw [hfr] at h1
        refine atOp_mono S ?_ (atOp_congr S hk.plain hag (h1 w hC2))
        rintro u w' ⟨rfl, rfl⟩
        refine ⟨by simpa using hsz, hcl', v, ?_, hvf, dn, rem, hpm, hkt', ?_⟩
        · have := hvput (cf i)
          have e2 : (fun j => if j = i then cf i else v j) = v := by
            funext j; by_cases q : j = i
            · subst q; simp [hvf j hi2]
            · simp [q]
          rwa [e2] at this
        · rcases hst with ⟨h0, h2, h3⟩ | ⟨h0, h2, h3, h4, h5⟩
          · exact .inl ⟨h0, h2, fun j hj hl => h3 j hj (by rwa [getD_set_ne false (fun (e : i = j) => hnl (e ▸ hj))] at hl)⟩
          · exact .inr ⟨h0, h2, fun j hj => getD_set_true (h3 j hj), fun j hj hf => getD_set_true (h4 j hj hf), h5⟩
      · rcases hst with ⟨h0, h2, h3⟩ | ⟨_, _, _, h4, _⟩
        · rw [hfr] at h1
          refine atOp_mono S ?_ (atOp_congr S hk.plain hag (h1 w h2))
          rintro u w' ⟨rfl, hca, hstab⟩
          refine ⟨by simpa using hsz, hcl', v, ?_, hvf, dn, rem, hpm, hkt', .inl ⟨h0, hca, fun j hj hl => hstab j hj (fun (e : j = i) => hnl (e ▸ hj)) _ (h3 j hj (by rwa [getD_set_ne false (fun (e : i = j) => hnl (e ▸ hj))] at hl))⟩⟩
          have := hvput (cf i)
          have e2 : (fun j => if j = i then cf i else v j) = v := by
            funext j; by_cases q : j = i
            · subst q; simp [hvf j hi2]
            · simp [q]
          rwa [e2] at this
        · rw [h4 i hi2 hfl] at hun'; cases hun'
    · -- letters
      obtain ⟨pre, post, e⟩ := split_at hi2
      have hnt := (mem_parts hk.nodup).2 hi2
      have hnf : i ∉ fs := fun hf => ((mem_parts hk.nodup).1 hf).1 hi2
      rcases hst with ⟨h0, h2, h3⟩ | ⟨_, _, h3, _, _⟩
      · have hag := agree (fs ++ pre) (post ++ ts) (by rw [e]; simp)
        refine atOp_mono S ?_ (atOp_congr S hk.plain hag ((hL v hvf).1 pre i post e w h2 fun j hj hjl => h3 j hjl (hpre j hj)))
        rintro u w' ⟨hV, hca, hstab⟩
        refine ⟨by simpa using hsz, hcl', _, hvput u, fun j hj => by have : j ≠ i := fun (e : j = i) => hnf (e ▸ hj); simp [this, hvf j hj], dn, rem, hpm, fun m hm => ?_, .inl ⟨h0, hca, fun j hj hl => ?_⟩⟩
        · rw [getD_set_ne false (fun (e : i = m) => hnt (e ▸ hm))]; exact hkt m hm
        · by_cases q : j = i
          · subst q; simpa using hV
          · rw [getD_set_ne false (Ne.symm q)] at hl
            simp only [q, if_false]
            exact hstab j hj q _ (h3 j hj hl)
      · rw [h3 i hi2] at hun'; cases hun'
  · -- the tail
    have hnf : i ∉ fs := fun hf => ((mem_parts hk.nodup).1 hf).2 hi1
    have hnl : i ∉ ls := fun hf => (mem_parts hk.nodup).2 hf hi1
    have hnd : ts.Nodup := (List.nodup_append.1 hk.nodup).2.1
    have hnd2 : (dn ++ rem).Nodup := hpm.nodup_iff.2 hnd
    have hidn : i ∉ dn := fun h => by rw [(hkt i hi1).2 h] at hun'; cases hun'
    have hirem : i ∈ rem := by
      rcases List.mem_append.1 (hpm.mem_iff.2 hi1) with h | h
      · exact absurd h hidn
      · exact h
    have hdts : ∀ j ∈ dn, j ∈ ts := fun j hj => hpm.mem_iff.1 (List.mem_append_left _ hj)
    have hrts : ∀ j ∈ rem, j ∈ ts := fun j hj => hpm.mem_iff.1 (List.mem_append_right _ hj)
    have hfree : ∀ j ∈ preds ops i, j ∉ rem := fun j hj hr => by
      have h1 := (hkt j (hrts j hr)).1 (hpre j hj)
      exact (List.nodup_append.1 hnd2).2.2 j h1 j hr rfl
    have hT : Tg S C Kn rem.length rem (frame ops v (fs ++ ls ++ dn) a0) w ∧ (∀ i ∈ ls, listed.getD i false = true) ∧ (∀ i ∈ fs, floats ops ts i = false → listed.getD i false = true) := by
      rcases hst with ⟨h0, h2, h3⟩ | ⟨_, _, h3, h4, h5⟩
      · subst h0
        obtain ⟨t, r, e⟩ : ∃ t r, ts = t :: r := by cases ts with | nil => cases hi1 | cons t r => exact ⟨t, r, rfl⟩
        have ei : t = i := by
          rw [e] at hi1
          rcases List.mem_cons.1 hi1 with h | h
          · exact h.symm
          · have h1 := hpre t (hk.head t r e i h)
            have h2 := (hkt t (by rw [e]; exact .head _)).1 h1
            cases h2
        have hmk := mark_listed hcl i _ hpre
        have hall : ∀ j, floats ops ts j = false → listed.getD j false = true := fun j hj => by
          rw [e] at hj
          simp only [floats, ei, Bool.not_eq_false', List.contains_eq_mem, decide_eq_true_eq] at hj
          exact hmk j hj
        have hls : ∀ j ∈ ls, listed.getD j false = true := fun j hj => hall j (hk.fixed j hj)
        refine ⟨?_, hls, fun j _ hf => hall j hf⟩
        rw [List.append_nil]
        have h6 := (hL v hvf).2 w h2 fun j hj => h3 j hj (hls j hj)
        have hpm2 : rem.Perm ts := by simpa using hpm
        rw [hpm2.length_eq]
        exact Tg_perm S C Kn ts.length hpm2.symm h6
      · exact ⟨h5, h3, h4⟩
    obtain ⟨h5, h3, h4⟩ := hT
    obtain ⟨t1, t2, et⟩ := split_at hi1
    have hag : ∀ t ∈ looks ops i, (frame ops v (fs ++ ls ++ dn) a0).tmps[t]? = a.tmps[t]? := fun t ht =>
      (hv.agree hk.distinct (fs ++ ls ++ dn) t fun j hj => by
        rcases hk.order (fs ++ ls ++ t1) i t2 (by rw [et]; simp) t ht j hj with ⟨h1, h2⟩ | ⟨h1, h2⟩
        · refine .inl ⟨hpre j h1, ?_⟩
          rcases List.mem_append.1 h2 with h | h
          · exact List.mem_append_left _ h
          · exact List.mem_append_right _ ((hkt j (by rw [et]; exact List.mem_append_left _ h)).1 (hpre j h1))
        · have hnlj : listed.getD j false = false := by
            cases hlj : listed.getD j false with
            | false => rfl
            | true => have := hcl j hlj i h1; rw [this] at hun'; cases hun'
          refine .inr ⟨hnlj, fun h => ?_⟩
          rcases List.mem_append.1 h with h | h
          · exact h2 (List.mem_append_left _ h)
          · rw [(hkt j (hdts j h)).2 h] at hnlj; cases hnlj).symm
    obtain ⟨n, hn⟩ : ∃ n, rem.length = n + 1 := ⟨rem.length - 1, by have := List.length_pos_of_mem hirem; omega⟩
    rw [hn] at h5
    refine atOp_mono S ?_ (atOp_congr S hk.plain hag (h5 i hirem hfree))
    rintro u w' ⟨hc, ht⟩
    have hlen : (rem.erase i).length = n := by rw [List.length_erase_of_mem hirem]; omega
    refine ⟨by simpa using hsz, hcl', _, hvput u, fun j hj => by have : j ≠ i := fun (e : j = i) => hnf (e ▸ hj); simp [this, hvf j hj], dn ++ [i], rem.erase i, ?_, fun m hm => ?_, .inr ⟨by simp, fun hne => ?_, fun j hj => getD_set_true (h3 j hj), fun j hj hf => getD_set_true (h4 j hj hf), ?_⟩⟩
    · refine List.Perm.trans ?_ hpm
      rw [List.append_assoc]
      exact List.Perm.append_left _ (List.perm_cons_erase hirem).symm
    · by_cases e : m = i
      · subst e
        rw [getD_set_self hil]; simp
      · rw [getD_set_ne false (Ne.symm e), hkt m hm]
        simp [e]
    · rcases hc with hc | hc
      · exact absurd (List.eq_nil_of_length_eq_zero (by omega)) hne
      · exact hc
    · have hni : i ∉ fs ++ ls ++ dn := by
        simp only [List.mem_append]
        rintro ((h | h) | h)
        · exact hnf h
        · exact hnl h
        · exact hidn h
      rw [← List.append_assoc, frame_app, frame_upd _ _ hni, hlen]
      show Tg S C Kn n _ ((frame ops v (fs ++ ls ++ dn) a0).put (dstOf ops i) (if i = i then u else v i)) w'
      rw [if_pos rfl]; exact ht

/-- THE RULE, over whatever calculus. -/
theorem rule2 {opAt : Nat → (Act → World → Prop) → Act → World → Prop} (hop : ∀ i K a w, i < ops.size → atOp S i a w (fun v w' => K (a.put (dstOf ops i) v) w') → opAt i K a w) (mono : ∀ i K K' a w, (∀ a w, K a w → K' a w) → opAt i K a w → opAt i K' a w)
    (fs ls ts : List Nat) (a0 : Act) (V : Nat → Value → World → Prop) (CA C : World → Prop) (Kn : Act → World → Prop) (w0 : World) (hc : chk2 ops a0.tmps.size fs ls ts = true) (hCA : ∀ w, CA w → C w) (h0 : CA w0)
    (h : Fx S (floats ops ts) CA C (fun i w w' => ∀ j ∈ ls, j ≠ i → ∀ u, V j u w → V j u w') fs a0 fun a =>
      Lt S V CA (fun i w w' => ∀ j ∈ ls, j ≠ i → ∀ u, V j u w → V j u w') ls [] a fun facts a => ∀ w, CA w → (∀ p ∈ facts, V p.1 p.2 w) → Tg S C Kn ts.length ts a w) :
    anyG (Region.ready .any ops) opAt Kn ops.size (Array.replicate ops.size false) a0 w0 := by
  have hk := chk2_spec hc
  obtain ⟨cf, hF, hL⟩ := Fx_spec S fs a0 _ (List.nodup_append.1 (List.nodup_append.1 hk.nodup).1).1 h
  have hL2 : ∀ v : Nat → Value, (∀ i ∈ fs, v i = cf i) → (∀ pre i post, ls = pre ++ i :: post → ∀ w, CA w → (∀ j ∈ preds ops i, j ∈ ls → V j (v j) w) → atOp S i (frame ops v (fs ++ pre) a0) w (fun u w' => V i u w' ∧ CA w' ∧ ∀ j ∈ ls, j ≠ i → ∀ x, V j x w → V j x w')) ∧
      ∀ w, CA w → (∀ j ∈ ls, V j (v j) w) → Tg S C Kn ts.length ts (frame ops v (fs ++ ls) a0) w := fun v hv => by
    obtain ⟨h1, facts, h2, h3⟩ := Lt_spec S v ls ls [] _ _ (fun i hi => hi) (fun p hp => by cases hp) hL
    have e : frame ops cf fs a0 = frame ops v fs a0 := frame_congr ops fs a0 fun j hj => (hv j hj).symm
    refine ⟨fun pre i post e2 w hw hp => ?_, fun w hw hp => ?_⟩
    · have := h1 pre i post e2 w hw hp
      rwa [e, ← frame_app] at this
    · have := h3 w hw (fun p hq => by rw [(h2 p hq).1]; exact hp _ (h2 p hq).2)
      rwa [e, ← frame_app] at this
  have h00 : Inv2 S fs ls ts a0 cf V CA C Kn (Array.replicate ops.size false) a0 w0 :=
    ⟨by simp, fun i hi => (by rw [getD_repl] at hi; cases hi), cf, ⟨rfl, rfl, fun i t _ hl => (by rw [getD_repl] at hl; cases hl), fun t _ => rfl⟩, fun _ _ => rfl, [], ts, .refl _, fun i _ => (by rw [getD_repl]; simp), .inl ⟨rfl, h0, fun j _ hl => (by rw [getD_repl] at hl; cases hl)⟩⟩
  refine anyG_inv (Inv2 S fs ls ts a0 cf V CA C Kn) (fun _ _ _ h => h.size) (fun listed a w hI i hi => hop i _ a w (ready_preds hi).1 (inv_step2 S hk hCA hF hL2 hI hi)) mono (fun listed a w hI hr => ?_) ops.size _ a0 w0 (fun S hn hS => nodup_bound _ S hn fun i hi => (hS i hi).1) h00
  obtain ⟨hsz, hcl, v, hv, hvf, dn, rem, hpm, hkt, hst⟩ := hI
  have hall := ready_none hsz hk.back hr ops.size (Nat.le_refl _)
  have hnd2 : (dn ++ rem).Nodup := hpm.nodup_iff.2 (List.nodup_append.1 hk.nodup).2.1
  have hrem : rem = [] := by
    cases rem with
    | nil => rfl
    | cons x r =>
      exfalso
      have hx : x ∈ ts := hpm.mem_iff.1 (List.mem_append_right _ (.head _))
      have h1 := (hkt x hx).1 (hall _ (hk.lt _ (List.mem_append_right _ hx)))
      exact (List.nodup_append.1 hnd2).2.2 x h1 x (.head _) rfl
  subst hrem
  rw [List.append_nil] at hpm
  have ha := hv.full hk.distinct (fs ++ ls ++ dn) fun j hj => ⟨hall j hj, by
    rcases List.mem_append.1 (hk.all j hj) with h | h
    · exact List.mem_append_left _ h
    · exact List.mem_append_right _ (hpm.mem_iff.2 h)⟩
  rcases hst with ⟨h1, h2, h3⟩ | ⟨h1, _, _, _, h5⟩
  · subst h1
    have ets : ts = [] := hpm.symm.eq_nil
    have := (hL2 v hvf).2 w h2 fun j hj => h3 j hj (hall j (hk.lt _ (by simp [hj])))
    subst ets
    rw [ha, List.append_nil]
    exact this
  · rw [ha]; exact h5
end

section
variable (P : Program) (ops : Array Oper)
/-- A REGION THAT DRAWS ITS ORDER. -/
theorem region2 {id : Nat} {Q : Exit → Act → World → Prop} {a0 : Act} {w : World} (hm : P.follows .mixedOrders = true) (fs ls ts : List Nat) (V : Nat → Value → World → Prop) (CA C : World → Prop)
    (hc : chk2 ops a0.tmps.size fs ls ts = true) (hCA : ∀ w, CA w → C w) (h0 : CA w.drew)
    (h : Fx (semP P ops) (floats ops ts) CA C (Stab ls V) fs a0 fun a =>
      Lt (semP P ops) V CA (Stab ls V) ls [] a fun facts a => ∀ w, CA w → Told V facts w → Tg (semP P ops) C (Q .normal) ts.length ts a w) :
    (Code.region id ops true).wp P Q a0 w :=
  wp_region_any hm (to_wpAny P ops _ _ _ _ (rule2 (semP P ops) (hopP P ops) (fun _ _ _ _ _ hK => wpOp_mono hK) fs ls ts a0 V CA C (Q .normal) w.drew hc hCA h0 h))

/-- The same, where all that goes ahead of the tail writes no old block. -/
theorem regionB2 {id : Nat} {Q : Exit → Act → World → Prop} {a0 : Act} {w : World} (hm : P.follows .mixedOrders = true) (fs ls ts : List Nat) (V : Nat → Value → World → Prop) (C : World → Prop)
    (hc : chk2 ops a0.tmps.size fs ls ts = true) (hC : ∀ w', Below w.heap.size w w' → C w')
    (h : Fx (semP P ops) (floats ops ts) (Below w.heap.size w) C (Stab ls V) fs a0 fun a =>
      Lt (semP P ops) V (Below w.heap.size w) (Stab ls V) ls [] a fun facts a => ∀ w', Below w.heap.size w w' → Told V facts w' → Tg (semP P ops) C (Q .normal) ts.length ts a w') :
    (Code.region id ops true).wp P Q a0 w := region2 P ops hm fs ls ts V (Below w.heap.size w) C hc hC (Below.refl _ w).drew h

variable {P ops} {C : World → Prop} {Kn : Act → World → Prop}
def freeB (ops : Array Oper) (rem : List Nat) : List Nat := rem.filter fun i => (preds ops i).all fun j => !rem.contains j
theorem freeB_mem {rem : List Nat} {i : Nat} (hi : i ∈ rem) (hf : ∀ j ∈ preds ops i, j ∉ rem) : i ∈ freeB ops rem := by
  unfold freeB
  rw [List.mem_filter]
  refine ⟨hi, List.all_eq_true.2 fun j hj => ?_⟩
  have := hf j hj
  simpa using this
theorem Tg.go {n i : Nat} {rem rem' : List Nat} {a : Act} {w : World} {o : Oper} (he : rem.erase i = rem') (ho : ops[i]? = some o)
    (h : wpList P ops (NQ fun a' w' => a'.defers = a.defers ∧ (n = 0 ∨ C w') ∧ Tg (semP P ops) C Kn n rem' a' w') [o] a w) :
    atOp (semP P ops) i a w (fun v w' => (n = 0 ∨ C w') ∧ Tg (semP P ops) C Kn n (rem.erase i) (a.put (dstOf ops i) v) w') := by
  rw [he]
  unfold atOp dstOf; simp only [ho, Option.bind_some]
  exact (semP P ops).mono (fun v w' hh => hh.2) (ofList P ops (T := fun a' w' => a'.defers = a.defers ∧ (n = 0 ∨ C w') ∧ Tg (semP P ops) C Kn n rem' a' w') (fun _ _ h => h.1) h)
theorem Tg.done {S : Sem ops} {l : List Nat} {a : Act} {w : World} (h : Kn a w) : Tg S C Kn 0 l a w := h
/-- One operation may come next. -/
theorem Tg.one {n : Nat} (i : Nat) {rem : List Nat} (rem' : List Nat) {a : Act} {w : World} {o : Oper} (hf : freeB ops rem = [i]) (he : rem.erase i = rem') (ho : ops[i]? = some o)
    (h : wpList P ops (NQ fun a' w' => a'.defers = a.defers ∧ (n = 0 ∨ C w') ∧ Tg (semP P ops) C Kn n rem' a' w') [o] a w) : Tg (semP P ops) C Kn (n + 1) rem a w := by
  intro j hj hfree
  have := freeB_mem hj hfree
  rw [hf] at this
  obtain rfl : j = i := by simpa using this
  exact Tg.go he ho h
/-- One of two operations may come next. -/
theorem Tg.two {n : Nat} (i k : Nat) {rem : List Nat} (r1 r2 : List Nat) {a : Act} {w : World} {o o' : Oper} (hf : freeB ops rem = [i, k]) (he : rem.erase i = r1) (he' : rem.erase k = r2) (ho : ops[i]? = some o) (ho' : ops[k]? = some o')
    (h : wpList P ops (NQ fun a' w' => a'.defers = a.defers ∧ (n = 0 ∨ C w') ∧ Tg (semP P ops) C Kn n r1 a' w') [o] a w)
    (h' : wpList P ops (NQ fun a' w' => a'.defers = a.defers ∧ (n = 0 ∨ C w') ∧ Tg (semP P ops) C Kn n r2 a' w') [o'] a w) : Tg (semP P ops) C Kn (n + 1) rem a w := by
  intro j hj hfree
  have := freeB_mem hj hfree
  rw [hf] at this
  simp only [List.mem_cons, List.not_mem_nil, or_false] at this
  rcases this with rfl | rfl
  · exact Tg.go he ho h
  · exact Tg.go he' ho' h'
end
end Go.Proofs.YtgacdmkhgllceaaGreatDoor.Rely
