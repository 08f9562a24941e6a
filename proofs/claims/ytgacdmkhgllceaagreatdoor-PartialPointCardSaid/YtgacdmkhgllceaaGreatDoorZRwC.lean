/- Proved: at every input the law PartialPoint returns true, and each argument reads behind the call as it read before. Conditions: none beyond those of the given statement itself (the digest tables hold what they are laid with). -/
import Derived.Test.YtgacdmkhgllceaaGreatDoorZRwW
import Derived.Test.YtgacdmkhgllceaaGreatDoorZLawK
import Derived.Test.YtgacdmkhgllceaaGreatDoorCards
import Derived.Test.YtgacdmkhgllceaaGreatDoorTie
import Derived.WalkKit
import Derived.ProofKit
namespace Go.Proofs.YtgacdmkhgllceaaGreatDoor.Point
open Wit Go.ChangeShapes Go.WideShapes Go.ChangeAt Go.RowKit Go.Shelf



set_option maxRecDepth 100000 in
theorem contract (H : Type) (enc : TypeId × Value → H) (W : World) (base : Nat) (args : Array Value) (ds gs : List (DataW H)) (before : List MemPlace)
    (hval : ∀ (j : Nat) t v, Tryz.f7.params[j]? = some t → args[j]? = some v → Value.okWide Tryz.prog W .any base t v)
    (hW : DataW.Whole enc Tryz.prog Tryz.f7.params.toList Rows.partialPointSpec.vars false W args.toList ds gs before)
    (hsz : (DataW.weightsEach Tryz.prog (Tryz.f7.params.toList ++ (OpenSpec.ofChange Rows.partialPointSpec).bare.plain.varTypes Tryz.prog) (ds ++ gs)).all (· ≤ reachBytes) = true)
    (hL : laidMetH Tryz.prog Rows.partialPointRow.laid W) :
    Calls Tryz.prog 7 args W fun e W' => ∃ v, e = .returned v ∧ Rows.partialPointSpec.post enc Tryz.prog Tryz.f7 false true false false W args v W' := by
  have hW' := hW
  have hlt : ∀ p ∈ before, p.block < W.heap.size := fun p hp => hW.lt p hp
  obtain ⟨p, q, hA0, hV, rfl, hfz, hnd⟩ := hW
  have hA : DataW.TrodAll enc Tryz.prog W 0 (fun _ => true) true Tryz.f7.params.toList args.toList ds p := hA0
  rw [Tryz.params7] at hA hval hsz
  obtain ⟨v0, vs0, d0, ds0, p0, q0, hargs, rfl, rfl, h0, r0⟩ := trodAll_cons hA
  obtain ⟨v1, vs1, d1, ds1, p1, q1, rfl, rfl, rfl, h1, r1⟩ := trodAll_cons r0
  obtain ⟨v2, vs2, d2, ds2, p2, q2, rfl, rfl, rfl, h2, r2⟩ := trodAll_cons r1
  obtain ⟨v3, vs3, d3, ds3, p3, q3, rfl, rfl, rfl, h3, r3⟩ := trodAll_cons r2
  obtain ⟨v4, vs4, d4, ds4, p4, q4, rfl, rfl, rfl, h4, r4⟩ := trodAll_cons r3
  obtain ⟨v5, vs5, d5, ds5, p5, q5, rfl, rfl, rfl, h5, r5⟩ := trodAll_cons r4
  obtain ⟨rfl, rfl, rfl⟩ := trodAll_nil r5
  obtain rfl : args = #[v0, v1, v2, v3, v4, v5] := by cases args; simp_all
  obtain ⟨rfl, rfl⟩ := trodVars_none hV
  have reach : ∀ {j : Nat} {t : TypeId} {d : DataW H}, ([25, 42, 43, 43, 44, 28] : List TypeId)[j]? = some t → [d0, d1, d2, d3, d4, d5][j]? = some d → ∀ n ∈ d.weights Tryz.prog t, n ≤ reachBytes := fun {j t d} ht hd n hn => by
    have hm := DataW.weights_mem_each (ts := ([25, 42, 43, 43, 44, 28] : List TypeId) ++ (OpenSpec.ofChange Rows.partialPointSpec).bare.plain.varTypes Tryz.prog) (ds := [d0, d1, d2, d3, d4, d5] ++ []) (j := j) (t := t) (d := d)
      (by rw [List.getElem?_append_left (by have := List.getElem?_eq_some_iff.1 ht; exact this.1)]; exact ht) (by simpa using hd) n hn
    have := List.all_eq_true.1 hsz n hm
    simpa using this
  obtain ⟨vr, vo, rows, owners, rfl, hr, ho⟩ := arg_prog (hval 0 25 v0 rfl rfl) h0 (reach (j := 0) rfl rfl)
  obtain ⟨secret, rfl, rfl, rfl, hw1⟩ := open_int Tryz.underlying42 (hval 1 42 v1 rfl rfl) h1
  obtain ⟨random, hx⟩ := arg_sl Tryz.underlying43 (by kernel_rfl) (Nat.le_of_ble_eq_true (by kernel_rfl)) (hval 2 43 v2 rfl rfl) h2 (reach (j := 2) rfl rfl) u32_of
  obtain ⟨nonces, hn⟩ := arg_sl Tryz.underlying43 (by kernel_rfl) (Nat.le_of_ble_eq_true (by kernel_rfl)) (hval 3 43 v3 rfl rfl) h3 (reach (j := 3) rfl rfl) u32_of
  obtain ⟨b, rfl, rfl, rfl, hw4⟩ := open_int Tryz.underlying44 (hval 4 44 v4 rfl rfl) h4
  obtain ⟨txt, ht⟩ := arg_sl Tryz.underlying28 (by kernel_rfl) (Nat.le_of_ble_eq_true (by kernel_rfl)) (hval 5 28 v5 rfl rfl) h5 (reach (j := 5) rfl rfl) byte_of
  have hw1' := hw1
  have hw4' := hw4
  simp only [Lit.wf, Bool.and_eq_true, decide_eq_true_eq] at hw1' hw4'
  have k1 : IntKind.u32.min = 0 := rfl
  have k2 : IntKind.u32.max = 4294967295 := rfl
  have k3 : IntKind.u16.min = 0 := rfl
  have k4 : IntKind.u16.max = 65535 := rfl
  have walk := point_law vr vo v2 v3 v5 rows owners secret b random nonces txt W hr ho hx hn ht (glob_of hL) (by omega) (by omega) (by omega) (by omega)
  clear hA0
  simp only [List.append_nil, List.nil_append] at hW' hlt
  refine walk.mono fun e W' ⟨he, hb⟩ => ?_
  subst he
  refine ⟨_, rfl, post_below (pa := p0 ++ ([] ++ (p2 ++ (p3 ++ ([] ++ (p5 ++ [])))))) (pv := []) hW' (fun _ _ _ => trodAll_cons_mk (shut_bool Tryz.underlying4 _) trodAll_mk0) (fun sp hs => ?_) (fun _ _ => rfl) (by simp) hb (ok_one (by kernel_rfl) rfl (okWide_bool_mk Tryz.underlying4 _))⟩
  refine trodAll_cons_mk (again (by kernel_rfl) row25 h0 (fun p hp => by simp [hp]) hlt hb hs) ?_
  refine trodAll_cons_mk (shut_int Tryz.underlying42 hw1) ?_
  refine trodAll_cons_mk (again (by kernel_rfl) row43 h2 (fun p hp => by simp [hp]) hlt hb hs) ?_
  refine trodAll_cons_mk (again (by kernel_rfl) row43 h3 (fun p hp => by simp [hp]) hlt hb hs) ?_
  refine trodAll_cons_mk (shut_int Tryz.underlying44 hw4) ?_
  refine trodAll_cons_mk (again (by kernel_rfl) row28 h5 (fun p hp => by simp [hp]) hlt hb hs) trodAll_mk0

noncomputable def wargs : Array Value := #[.agg #[.slice none 0 0, .slice none 0 0], .int .u32 0, .slice none 0 0, .slice none 0 0, .int .u16 0, .slice none 0 0]
theorem laid_met (os : Os) : laidMet Tryz.prog Rows.partialPointRow.laid ((laidWorld os).forCall (fun _ _ => 0) ⟨#[], wargs, []⟩).memory :=
  laidMet_of_run' 8 (by kernel_rfl) (by kernel_rfl)
theorem reads (os : Os) {H : Type} (enc : TypeId × Value → H) : ∃ places, DataW.whole enc Tryz.prog ((laidWorld os).forCall (fun _ _ => 0) ⟨#[], wargs, []⟩).memory Tryz.f7.params.toList Rows.partialPointSpec.vars false wargs.toList 8 = some ([.agg [.nil, .nil], .lit (.int .u32 0), .nil, .nil, .lit (.int .u16 0), .nil], [], places) :=
  ⟨[], by kernel_rfl⟩

set_option maxRecDepth 100000 in
theorem lifted (os : Os) (started : os.Started) (H : Type) (enc : TypeId × Value → H) (F : Stop.Interp) :
    ReturnsInHanded {} Tryz.checked os 7 .any ((OpenSpec.ofChange Rows.partialPointSpec).preRow enc Tryz.prog Tryz.f7 Rows.partialPointRow.domain false Rows.partialPointRow.laid) (((OpenSpec.ofChange Rows.partialPointSpec).at F).post enc Tryz.prog Tryz.f7 false true false false) := by
  obtain ⟨places, hx⟩ := reads os enc
  refine returnsInHanded_of_row (C := Tryz.checked) (s := OpenSpec.ofChange Rows.partialPointSpec) own started (by kernel_rfl) Tryz.func7
    (witness_row_at (enc := enc) (C := Tryz.checked) false (laidWorld os) wargs rfl (by kernel_rfl) (by kernel_rfl) (by kernel_rfl)
      (OpenSpec.preRow_of_cond 8 hx (by kernel_rfl) (fun k hk => by cases hk) (by kernel_rfl) (laid_met os))) ?_
  intro W base args ds gs before hval hW _ _ hsz hL _ _
  exact contract H enc W base args ds gs before hval hW hsz hL

theorem said : Rows.PartialPointSaid :=
  OpenClaim.holds_of_cond 7 Tryz.f7 rfl rfl rfl rfl rfl rfl rfl ⟨rfl, rfl, rfl, rfl, rfl⟩ rfl rfl rfl rfl rfl (by kernel_rfl) Tryz.func7 (by kernel_rfl)
    (of_decide_eq_true (by kernel_rfl)) (by unfold Func.isWrapper; first | (rw [if_pos (by decide +kernel)]; kernel_rfl) | (rw [if_neg (by decide +kernel)]; exact ⟨rfl, rfl⟩))
    (fun os started H enc _ F => by rw [OpenClaim.pre_eq_preRow]; exact lifted os started H enc F)

/-- No parameter wants a stand-in; the program's own looks are on: what the card asks. -/
theorem plain (f : FuncId) (fn : Func) (hf : Tryz.pinned.checked.prog.funcNamed "signatory/signatorylaw42.PartialPoint" = some f) (hfn : Tryz.pinned.checked.prog.funcs[f]? = some fn) :
    true = Tryz.pinned.checked.prog.looks [] ∧ ∀ (j : Nat) t, fn.params[j]? = some t → Tryz.pinned.checked.prog.wantsStandIn t = false := by
  obtain rfl : f = 7 := Option.some.inj ((show Tryz.prog.funcNamed "signatory/signatorylaw42.PartialPoint" = some 7 by kernel_rfl).symm.trans hf) |>.symm
  obtain rfl : fn = Tryz.f7 := (Option.some.inj (Tryz.func7.symm.trans hfn)).symm
  refine ⟨by kernel_rfl, fun j t ht => ?_⟩
  rw [Tryz.params7] at ht
  have hm := Array.mem_of_getElem? ht
  have hm' : t = 25 ∨ t = 42 ∨ t = 43 ∨ t = 44 ∨ t = 28 := by simp at hm; omega
  rcases hm' with rfl | rfl | rfl | rfl | rfl
  · exact (show Tryz.prog.wantsStandIn 25 = false by kernel_rfl)
  · exact (show Tryz.prog.wantsStandIn 42 = false by kernel_rfl)
  · exact (show Tryz.prog.wantsStandIn 43 = false by kernel_rfl)
  · exact (show Tryz.prog.wantsStandIn 44 = false by kernel_rfl)
  · exact (show Tryz.prog.wantsStandIn 28 = false by kernel_rfl)

/-- THE CARD: for every input the law PartialPoint returns true and leaves its input as it was. -/
theorem card : Rows.PartialPointCardSaid :=
  Claim7.holds_tied_plain_at .later [] _ _ _ _ said (fun _ h => by cases h) (by kernel_rfl) (fun _ h => by cases h) partialPoint_row_tie rfl ⟨rfl, rfl⟩ (by kernel_rfl) rfl plain (by kernel_rfl)
end Go.Proofs.YtgacdmkhgllceaaGreatDoor.Point
