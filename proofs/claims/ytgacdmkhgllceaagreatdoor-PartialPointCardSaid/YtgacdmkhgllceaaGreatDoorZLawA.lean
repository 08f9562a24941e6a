/- The set's own words on programs: Columns, Check, Small. -/
import Derived.Test.YtgacdmkhgllceaaGreatDoorZSlices1
import Derived.Deep.QuietTactic
import Derived.BigQuiet
import Derived.Deep.Cut
import Derived.Deep.CutRange
namespace Go.Proofs.YtgacdmkhgllceaaGreatDoor
open Go.RowKit Go.Shelf

theorem refColumns_any (vr vo : Value) (rows : List (List Int)) (w : World) (hr : Rows2 w vr rows) :
    Calls Tryz.prog 42 #[.agg #[vr, vo]] w fun e w' => e = .returned (I (cols rows)) ∧ Below w.heap.size w w' := by
  obtain ⟨A, c, rfl, hm⟩ := hr.shape
  have hra := hr.alloc (.cells #[.slice A rows.length c, vo] 25)
  have BW := (Below.refl w.heap.size w).alloc (Nat.le_refl _) (.cells #[.slice A rows.length c, vo] 25)
  have HB := Lib.hid BW
  clear BW hr
  by_cases h : rows.length = 0
  · have g : ((rows.length : Int) == 0) = true := beq_iff_eq.2 (by omega)
    have E : Hid (cols rows = 1) := Lib.hid (by unfold cols; rw [if_pos h])
    clear h hra
    go_enter Tryz.func42, Tryz.ntmps42
    go_wp2
    go_ret
    exact ⟨ret_int (by rw [E.out]; rfl), HB.out⟩
  · have g : ((rows.length : Int) == 0) = false := beq_eq_false_iff_ne.2 (by omega)
    have hpos : 0 < rows.length := by omega
    obtain ⟨ad, u, rfl, hc, hu⟩ := hra.at 0 hpos
    obtain ⟨A1, c1, rfl, hm1⟩ := hu.shape
    rw [show ad.add 0 = ad by unfold Addr.add; rfl] at hc
    have E : Hid (cols rows = rows[0].length) := Lib.hid (by unfold cols; rw [if_neg h, headD_get hpos])
    clear h hra hu
    go_enter Tryz.func42, Tryz.ntmps42
    go_wp2
    go_ret
    exact ⟨ret_int (by rw [E.out]), HB.out⟩

set_option maxRecDepth 100000 in
set_option maxHeartbeats 2000000 in
theorem refCheck_any (vr vo : Value) (rows : List (List Int)) (owners : List Int) (w : World) (hr : Rows2 w vr rows) (ho : Ints w vo owners) :
    Calls Tryz.prog 115 #[.agg #[vr, vo]] w fun e w' => e = .returned (I (progErr rows owners)) ∧ Below w.heap.size w w' := by
  obtain ⟨A, c, rfl, hm⟩ := hr.shape
  obtain ⟨B, d, rfl, hn⟩ := ho.shape
  have BW := (Below.refl w.heap.size w).alloc (Nat.le_refl _) (.cells #[.slice A rows.length c, .slice B owners.length d] 25)
  have b0 : (w.alloc (.cells #[.slice A rows.length c, .slice B owners.length d] 25)).cell? ⟨w.heap.size, 0, none⟩ = some (.slice A rows.length c) := by rw [World.cell?_alloc_new]; rfl
  have b1 : (w.alloc (.cells #[.slice A rows.length c, .slice B owners.length d] 25)).cell? ⟨w.heap.size, 1, none⟩ = some (.slice B owners.length d) := by rw [World.cell?_alloc_new]; rfl
  obtain ⟨W, hW⟩ : ∃ W, w.alloc (.cells #[.slice A rows.length c, .slice B owners.length d] 25) = W := ⟨_, rfl⟩
  rw [hW] at BW b0 b1
  have HR := Lib.hid (hr.below BW)
  have HO := Lib.hid (ho.below BW)
  have HB := Lib.hid BW
  clear hr ho BW
  by_cases h : 64 < rows.length
  · have E := Lib.hid (progErr_long (owners := owners) h)
    have h2 : (64 : Int) < rows.length := by omega
    go_enter Tryz.func115, Tryz.ntmps115
    go_wp2
    go_ret
    exact ⟨ret_int E.out.symm, HB.out⟩
  · have H1 := Lib.hid h
    have h' : ¬ (64 : Int) < (rows.length : Int) := by omega
    have h64 : rows.length ≤ 64 := by omega
    clear h
    go_enter Tryz.func115, Tryz.ntmps115
    go_wp2
    go_loop [2, 3] (fun v2 v3 => v2 = I 0 ∧ ∃ k : Nat, k ≤ rows.length ∧ v3 = I k ∧ Hid (∀ r ∈ rows.take k, decide (64 < r.length) = false)) (fun _ v3 => rows.length - (intOf v3).toNat)
    case atStart => exact ⟨rfl, 0, Nat.zero_le _, rfl, Lib.hid (by simp)⟩
    case round =>
      obtain ⟨rfl, k, hk, rfl, hb⟩ := hrel
      by_cases hlt : k < rows.length
      · obtain ⟨ad, u, rfl, hc, hu⟩ := HR.out.at k hlt
        obtain ⟨A1, c1, rfl, hm1⟩ := hu.shape
        by_cases hq : 64 < rows[k].length
        · have E : Hid (progErr rows owners = 2) := Lib.hid (progErr_wide H1.out (List.any_eq_true.2 ⟨rows[k], List.getElem_mem hlt, by simpa using hq⟩))
          have hq2 : (64 : Int) < (rows[k].length : Int) := by omega
          clear hu hq
          go_wp2
          go_ret
          exact ⟨ret_int E.out.symm, HB.out⟩
        · have HN : Hid (∀ r ∈ rows.take (k + 1), decide (64 < r.length) = false) := Lib.hid (by
            rw [List.take_succ_eq_append_getElem hlt]
            intro r hr
            rcases List.mem_append.1 hr with hr | hr
            · exact hb.out r hr
            · simp at hr; subst hr; simpa using hq)
          have hq2 : ¬ (64 : Int) < (rows[k].length : Int) := by omega
          clear hu hq
          go_wp2
          go_round
          case rel => exact ⟨rfl, k + 1, by omega, by go_num, HN⟩
          case measure => simp [intOf]; omega
      · have HW2 : Hid (rows.any (fun r => decide (64 < r.length)) = false) := Lib.hid (by
          have := hb.out
          rw [List.take_of_length_le (by omega)] at this
          exact List.any_eq_false.2 fun x hx => by simpa using this x hx)
        obtain rfl : k = rows.length := by omega
        clear hb hlt hk
        by_cases hl : rows.length = owners.length
        · have HL := Lib.hid hl
          have hl1 : ((rows.length : Int) != (owners.length : Int)) = false := by simp [hl]
          clear hl
          go_wp2
          go_loopw [2, 4, 5] (fun v2 v4 _ wr => v2 = I 0 ∧ ∃ k : Nat, k ≤ rows.length ∧ v4 = I k ∧ Hid (Below W.heap.size W wr) ∧ Hid (∀ j, (hj : j < rows.length) → (ho : j < owners.length) → j < k → badRow (rows.headD []).length rows[j] owners[j] = false)) (fun _ v4 _ _ => rows.length - (intOf v4).toNat)
          case atStart => exact ⟨rfl, 0, Nat.zero_le _, rfl, Lib.hid (Below.refl _ _), Lib.hid (fun j _ _ h => by omega)⟩
          case round =>
            obtain ⟨rfl, k, hk, rfl, hbw, hgd⟩ := hrel
            obtain ⟨w3, hw3⟩ : ∃ w3, w3 = wr := ⟨_, rfl⟩
            subst hw3
            by_cases hlt : k < rows.length
            · have hlo : k < owners.length := by have := HL.out; omega
              obtain ⟨ad, u, rfl, hc, hu⟩ := (HR.out.below hbw.out).at k hlt
              obtain ⟨ad0, u0, e0, hc0, hu0⟩ := (HR.out.below hbw.out).at 0 (by omega)
              injection e0 with e0
              subst e0
              rw [show ad.add 0 = ad by unfold Addr.add; rfl] at hc0
              have HBADR : Hid (∀ o, owners[k] = o → badRow (rows.headD []).length rows[k] o = true → progErr rows owners = 230) := Lib.hid (fun o hox hbd => progErr_row H1.out HW2.out HL.out k hlt (by rw [hox]; exact hbd))
              have HH : Hid ((rows.headD []).length = rows[0].length) := Lib.hid (by rw [headD_get (by omega)])
              obtain ⟨rk, hrk⟩ : ∃ r, rows[k] = r := ⟨_, rfl⟩
              obtain ⟨r0, hr0⟩ : ∃ r, rows[0] = r := ⟨_, rfl⟩
              rw [hrk] at hu HBADR
              rw [hr0] at hu0 HH
              have HRK := Lib.hid hrk
              obtain ⟨A1, c1, rfl, hm1⟩ := hu.shape
              obtain ⟨A0, c0, rfl, hm0⟩ := hu0.shape
              obtain ⟨n, hn⟩ : ∃ n, rk.length = n := ⟨_, rfl⟩
              obtain ⟨m, hm⟩ : ∃ m, r0.length = m := ⟨_, rfl⟩
              have hu2 : Ints w3 (.slice A1 n c1) rk := by rw [← hn]; exact hu
              have HU := Lib.hid hu2
              clear hu2
              rw [hn] at hc hm1
              rw [hm] at hc0 HH
              have HN := Lib.hid hn
              obtain ⟨bd, rfl, hoc⟩ := (HO.out.below hbw.out).at k hlo
              have q0 := keep hbw.out b0
              have q1 := keep hbw.out b1
              have hlr : (k : Int) < rows.length := by omega
              have hlo2 : (k : Int) < owners.length := by omega
              have hlz : 0 < rows.length := by omega
              have HX : Hid (∃ o, owners[k] = o) := Lib.hid ⟨_, rfl⟩
              obtain ⟨o, hox⟩ := HX.out
              have HOX := Lib.hid hox
              rw [hox] at hoc
              have HKL := Lib.hid hlt
              have HKO := Lib.hid hlo
              clear hu hu0 hox HX
              clear hn hm hm0 hrk hr0
              by_cases t1 : n = 0
              · have E : Hid (progErr rows owners = 230) := Lib.hid (HBADR.out o HOX.out (by unfold badRow; simp [HN.out, t1]))
                subst t1
                go_wp2
                go_quiet (fail)
                go_wp2
                go_ret
                exact ⟨ret_int E.out.symm, below_drewN (HB.out.trans (hbw.out.mono HB.out.size)) _⟩
              · have g1 : decide ((n : Int) < 1) = false := decide_eq_false (by omega)
                have g1' : ¬ (n : Int) < 1 := by omega
                by_cases t2 : n = m
                · subst t2
                  by_cases t3 : o < 0
                  · have g3 : decide (o < 0) = true := decide_eq_true t3
                    have E : Hid (progErr rows owners = 230) := Lib.hid (HBADR.out o HOX.out (by unfold badRow isP within; simp; omega))
                    clear t1
                    go_wp2
                    go_quiet (fail)
                    go_wp2
                    go_ret
                    exact ⟨ret_int E.out.symm, below_drewN (HB.out.trans (hbw.out.mono HB.out.size)) _⟩
                  · have g3 : decide (o < 0) = false := decide_eq_false t3
                    by_cases t4 : 64 ≤ o
                    · have g4 : decide (64 ≤ o) = true := decide_eq_true t4
                      have E : Hid (progErr rows owners = 230) := Lib.hid (HBADR.out o HOX.out (by unfold badRow isP within; simp; omega))
                      clear t1
                      go_wp2
                      go_quiet (fail)
                      go_wp2
                      go_ret
                      exact ⟨ret_int E.out.symm, below_drewN (HB.out.trans (hbw.out.mono HB.out.size)) _⟩
                    · have g4 : decide (64 ≤ o) = false := decide_eq_false t4
                      have HGO : Hid ((∀ x ∈ rk, oddQ x = false) → badRow (rows.headD []).length rk o = false) := Lib.hid (fun h => by
                        have h2 : rk.any oddQ = false := List.any_eq_false.2 fun x hx => by rw [h x hx]; decide
                        unfold badRow isP within; rw [h2, HN.out, HH.out]; simp; omega)
                      have HT1 := Lib.hid t1
                      clear t1 t3 t4
                      go_wp2
                      go_quiet (fail)
                      go_wp2
                      go_loopw [2, 5] (fun v2 v5 wr => v2 = I 0 ∧ ∃ q : Nat, q ≤ n ∧ v5 = I q ∧ Hid (Below w3.heap.size w3 wr) ∧ Hid (∀ x ∈ rk.take q, oddQ x = false)) (fun _ v5 _ => n - (intOf v5).toNat)
                      case atStart => exact ⟨rfl, 0, Nat.zero_le _, rfl, Lib.hid (below_drewN (Below.refl _ _) _), Lib.hid (by simp)⟩
                      case round =>
                        obtain ⟨rfl, q, hq, rfl, hbq, hgq⟩ := hrel
                        have y0 := keep hbq.out q0
                        have y1 := keep hbq.out hc
                        have HBQ : Hid (Below w.heap.size w wr) := Lib.hid ((HB.out.trans (hbw.out.mono HB.out.size)).trans (hbq.out.mono (by have := HB.out.size; have := hbw.out.size; omega)))
                        by_cases hqn : q < n
                        · have hqk : q < rk.length := by rw [HN.out]; exact hqn
                          obtain ⟨a1, rfl, hx⟩ := (HU.out.below hbq.out).at q hqk
                          have HTK : Hid (rk.take (q + 1) = rk.take q ++ [rk[q]]) := Lib.hid (List.take_succ_eq_append_getElem hqk)
                          have HOD : Hid (oddQ rk[q] = true → badRow (rows.headD []).length rk o = true) := Lib.hid (fun h => by
                            have h2 : rk.any oddQ = true := List.any_eq_true.2 ⟨_, List.getElem_mem hqk, h⟩
                            unfold badRow; rw [h2]; simp)
                          generalize rk[q] = x at *
                          clear hqk
                          by_cases t5 : x < 0
                          · have E : Hid (progErr rows owners = 230) := Lib.hid (HBADR.out o HOX.out (HOD.out (by unfold oddQ; simp [t5])))
                            go_wp2
                            go_ret
                            exact ⟨ret_int E.out.symm, HBQ.out⟩
                          · have t5' : 0 ≤ x := by omega
                            by_cases t6 : 1073741789 ≤ x
                            · have E : Hid (progErr rows owners = 230) := Lib.hid (HBADR.out o HOX.out (HOD.out (by unfold oddQ; simp [t6])))
                              go_wp2
                              go_ret
                              exact ⟨ret_int E.out.symm, HBQ.out⟩
                            · have HNXT : Hid (∀ z ∈ rk.take (q + 1), oddQ z = false) := Lib.hid (by
                                rw [HTK.out]
                                intro z hz
                                rcases List.mem_append.1 hz with hz | hz
                                · exact hgq.out z hz
                                · simp at hz; subst hz; unfold oddQ; simp; omega)
                              go_wp2
                              go_roundw
                              case rel => exact ⟨rfl, q + 1, by omega, by go_num, hbq, HNXT⟩
                              case measure => simp [intOf]; omega
                        · obtain rfl : q = n := by omega
                          have HNEXT : Hid (∀ j, (hj : j < rows.length) → (ho : j < owners.length) → j < k + 1 → badRow (rows.headD []).length rows[j] owners[j] = false) := Lib.hid (fun j hj ho hjk => by
                            by_cases e : j = k
                            · subst e
                              rw [HRK.out, HOX.out]
                              exact HGO.out (by have := hgq.out; rwa [List.take_of_length_le (by rw [HN.out]; exact Nat.le_refl _)] at this)
                            · exact hgd.out j hj ho (by omega))
                          have HBK : Hid (Below W.heap.size W wr) := Lib.hid (hbw.out.trans (hbq.out.mono hbw.out.size))
                          go_wp2
                          go_roundw
                          case rel => exact ⟨rfl, k + 1, by omega, by go_num, HBK, HNEXT⟩
                          case measure => simp [intOf]; omega
                · have g2 : ((n : Int) != (m : Int)) = true := bne_iff_ne.2 (by omega)
                  have E : Hid (progErr rows owners = 230) := Lib.hid (HBADR.out o HOX.out (by unfold badRow; rw [HN.out, HH.out]; simp [t2]))
                  clear t1
                  go_wp2
                  go_quiet (fail)
                  go_wp2
                  go_ret
                  exact ⟨ret_int E.out.symm, below_drewN (HB.out.trans (hbw.out.mono HB.out.size)) _⟩
            · obtain rfl : k = rows.length := by omega
              have E : Hid (progErr rows owners = 0) := Lib.hid (progErr_ok H1.out HW2.out HL.out fun j hj => hgd.out j hj (by have := HL.out; omega) hj)
              have HBF : Hid (Below w.heap.size w w3) := Lib.hid (HB.out.trans (hbw.out.mono HB.out.size))
              have q0 := keep hbw.out b0
              clear hgd hlt hk
              go_wp2
              go_ret
              exact ⟨ret_int E.out.symm, HBF.out⟩
        · have E : Hid (progErr rows owners = 230) := Lib.hid (progErr_len H1.out HW2.out hl)
          have hl1 : ((rows.length : Int) != (owners.length : Int)) = true := bne_iff_ne.2 (by omega)
          clear hl
          go_wp2
          go_ret
          exact ⟨ret_int E.out.symm, HB.out⟩

/-- Is a program right, with at most 16 rows and columns? -/
def smallB (rows : List (List Int)) (owners : List Int) : Bool := decide (rows.length ≤ 16) && (decide (progErr rows owners = 0) && decide (cols rows ≤ 16))
set_option maxHeartbeats 1000000 in
theorem small_any (vr vo : Value) (rows : List (List Int)) (owners : List Int) (w : World) (hr : Rows2 w vr rows) (ho : Ints w vo owners) :
    Calls Tryz.prog 75 #[.agg #[vr, vo]] w fun e w' => e = .returned (.bool (smallB rows owners)) ∧ Below w.heap.size w w' := by
  obtain ⟨A, c, rfl, hm⟩ := hr.shape
  have BW := (Below.refl w.heap.size w).alloc (Nat.le_refl _) (.cells #[.slice A rows.length c, vo] 25)
  have b0 : (w.alloc (.cells #[.slice A rows.length c, vo] 25)).cell? ⟨w.heap.size, 0, none⟩ = some (.slice A rows.length c) := by rw [World.cell?_alloc_new]; rfl
  have b1 : (w.alloc (.cells #[.slice A rows.length c, vo] 25)).cell? ⟨w.heap.size, 1, none⟩ = some vo := by rw [World.cell?_alloc_new]; rfl
  obtain ⟨W, hW⟩ : ∃ W, w.alloc (.cells #[.slice A rows.length c, vo] 25) = W := ⟨_, rfl⟩
  rw [hW] at BW b0 b1
  have HR := Lib.hid (hr.below BW)
  have HO := Lib.hid (ho.below BW)
  have HB := Lib.hid BW
  clear hr ho BW
  go_enter Tryz.func75, Tryz.ntmps75
  by_cases h1 : rows.length ≤ 16
  · have g1 : (rows.length : Int) ≤ 16 := by omega
    have H1 := Lib.hid h1
    clear h1
    go_wp2_with fail
    refine (refCheck_any _ _ rows owners _ HR.out HO.out).mono ?_
    rintro e w1 ⟨rfl, hb1⟩
    have HB1 : Hid (Below w.heap.size w w1) := Lib.hid (HB.out.trans (hb1.mono HB.out.size))
    have HR1 := Lib.hid (HR.out.below hb1)
    replace b0 := keep hb1 b0
    replace b1 := keep hb1 b1
    clear hb1 hW
    by_cases h2 : progErr rows owners = 0
    · have g2 : (progErr rows owners == 0) = true := beq_iff_eq.2 h2
      have H2 := Lib.hid h2
      clear h2
      go_wp2_with fail
      refine (refColumns_any _ _ rows _ HR1.out).mono ?_
      rintro e w2 ⟨rfl, hb2⟩
      have HB2 : Hid (Below w.heap.size w w2) := Lib.hid (HB1.out.trans (hb2.mono HB1.out.size))
      have E : Hid (smallB rows owners = decide ((cols rows : Int) ≤ 16)) := Lib.hid (by
        unfold smallB; rw [decide_eq_true H1.out, decide_eq_true H2.out, Bool.true_and, Bool.true_and, Bool.eq_iff_iff]; simp; omega)
      clear hb2
      go_wp2
      go_ret
      exact ⟨ret_bool E.out.symm, HB2.out⟩
    · have g2 : (progErr rows owners == 0) = false := beq_eq_false_iff_ne.2 h2
      have E : Hid (smallB rows owners = false) := Lib.hid (by unfold smallB; rw [decide_eq_false h2]; simp)
      clear h2
      go_wp2
      go_ret
      exact ⟨ret_bool E.out.symm, HB1.out⟩
  · have g1 : ¬ (rows.length : Int) ≤ 16 := by omega
    have E : Hid (smallB rows owners = false) := Lib.hid (by unfold smallB; rw [decide_eq_false h1]; rfl)
    clear h1
    go_wp2
    go_ret
    exact ⟨ret_bool E.out.symm, HB.out⟩

end Go.Proofs.YtgacdmkhgllceaaGreatDoor
