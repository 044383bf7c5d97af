/- The program's Resolve. -/
import Derived.Test.YtnmkdhoijdoccaaDoorCnM
import Derived.Test.YtnmkdhoijdoccaaDoorCnH
set_option linter.unusedVariables false
set_option linter.unusedSimpArgs false
namespace Go.Proofs.YtnmkdhoijdoccaaDoor
open Go Go.RowKit SL

theorem filter_take_succ (c : List Int) (p : Int → Bool) (j : Nat) (h : j < c.length) : (c.take (j + 1)).filter p = (c.take j).filter p ++ (if p c[j] = true then [c[j]] else []) := by
  rw [List.take_succ_eq_append_getElem h, List.filter_append]
  congr 1
  by_cases hp : p c[j] = true <;> simp [hp]

set_option maxRecDepth 100000 in
set_option maxHeartbeats 8000000 in
theorem resolve_walk (w0 w : World) (l : List HP) (h : SL.St w0 l w) (va vb : Value) (a b : List Int) (ha : Ent l (Rd (cInt .i64) va a)) (hb : Ent l (Rd (cInt .i64) vb b)) (hIa : ∀ x ∈ a, I64 x) (hIb : ∀ x ∈ b, I64 x) (v : Int) (hv : I64 v) :
    Calls Tryd.prog 27 #[va, vb, .int .i64 v] w fun e w' => ∃ v', e = .returned (.tuple #[v', .int .i64 (resM a b v).2]) ∧ SL.St w0 (Arr (cInt .i64) 3 v' (resM a b v).1 :: l) w' := by
  have NA := norm_walk w0 w l h va a (ha.use h) hIa
  have hR : resM a b v = if normE a ≠ 0 then ([], normE a) else if normE b ≠ 0 then ([], normE b) else if v < 1 ∨ 1048576 < v then ([], 20) else
    if (a.contains v && b.contains (-v)) = false then ([], 22) else if 65536 < (setM (resC a b v)).length then ([], 22) else (setM (resC a b v), 0) := rfl
  generalize resM a b v = R at *
  have hva := normE_vals a
  have hvb := normE_vals b
  obtain ⟨hv1, hv2⟩ := hv
  have HB := Lib.hid hb
  clear h hIa ha hb
  by_cases ea : normE a = 0
  · have hRa := hR.trans (if_neg (fun h => h ea)); clear hR
    have HOKA := Lib.hid (normE_ok ea)
    have HSA := Lib.hid (show normS a = setM a from if_pos ea)
    rw [ea, HSA.out] at NA
    clear ea hva
    by_cases eb : normE b = 0
    · have hRb := hRa.trans (if_neg (fun h => h eb)); clear hRa
      have HOKB := Lib.hid (normE_ok eb)
      have HSB := Lib.hid (show normS b = setM b from if_pos eb)
      have HEB := Lib.hid eb
      clear eb hvb
      by_cases ev : v < 1 ∨ 1048576 < v
      · have HR := Lib.hid (hRb.trans (if_pos ev)); clear hRb
        go_enter Tryd.func27, Tryd.ntmps27
        go_wp2_with fail
        refine NA.mono ?_
        rintro e w1 ⟨vx, rfl, h1⟩
        have NB := norm_walk w0 w1 _ h1 vb b ((Ent.tail HB.out).use h1) hIb
        rw [HEB.out] at NB
        clear NA hIb
        go_wp2_with fail
        refine NB.mono ?_
        rintro e w2 ⟨vy, rfl, h2⟩
        clear NB
        rcases ev with ev | ev
        · have d1 : decide (v < 1) = true := decide_eq_true ev
          go_wp2_with fail
          go_ret2
          refine ⟨_, by rw [HR.out]; rfl, ?_⟩
          rw [HR.out]
          exact (h2.drop.drop).rows_nil (cInt .i64) 3
        · have d1 : decide (v < 1) = false := decide_eq_false (by omega)
          have d2 : decide (1048576 < v) = true := decide_eq_true ev
          go_wp2_with fail
          go_ret2
          refine ⟨_, by rw [HR.out]; rfl, ?_⟩
          rw [HR.out]
          exact (h2.drop.drop).rows_nil (cInt .i64) 3
      · have hRv := hRb.trans (if_neg ev); clear hRb
        have d1 : decide (v < 1) = false := decide_eq_false (by omega)
        have d2 : decide (1048576 < v) = false := decide_eq_false (by omega)
        have v1 : 1 ≤ v := by omega
        have v2 : v ≤ 1048576 := by omega
        clear ev
        have HRV := Lib.hid hRv; clear hRv
        go_enter Tryd.func27, Tryd.ntmps27
        go_wp2_with fail
        refine NA.mono ?_
        rintro e w1 ⟨vx, rfl, h1⟩
        have NB := norm_walk w0 w1 _ h1 vb b ((Ent.tail HB.out).use h1) hIb
        rw [HEB.out, HSB.out] at NB
        clear NA hIb
        go_wp2_with fail
        refine NB.mono ?_
        rintro e w2 ⟨vy, rfl, h2⟩
        clear NB h1
        have CX := contains_walk w2 vx _ ((h2.pull 1).rd) v
        have CY := contains_walk w2 vy _ h2.rd (-v)
        rw [contains_set] at CX CY
        have HSL := Lib.hid (setM_len a); have HSL2 := Lib.hid (setM_len b)
        have HCT := Lib.hid (resC_set a b v)
        have hla := (HOKA.out).1
        have hlb := (HOKB.out).1
        have HLA := Lib.hid (show ∀ x ∈ setM a, litOk x = true from fun x hx => HOKA.out.2 x (setM_mem.1 hx))
        have HLB := Lib.hid (show ∀ x ∈ setM b, litOk x = true from fun x hx => HOKB.out.2 x (setM_mem.1 hx))
        have hSA : (setM a).length ≤ 65536 := by have := HSL.out; omega
        have hSB : (setM b).length ≤ 65536 := by have := HSL2.out; omega
        generalize setM a = SA at *
        generalize setM b = SB at *
        generalize setM (resC a b v) = SC at *
        clear HSL HSL2 hla hlb
        cases cx : a.contains v with
        | false =>
          rw [cx] at CX
          have HR := Lib.hid (HRV.out.trans (if_pos (by rw [cx]; rfl)))
          clear cx CY
          go_wp2_with (go_at_call 38; refine CX.mono ?_; rintro e w' ⟨rfl, rfl⟩)
          go_ret2
          refine ⟨_, by rw [HR.out]; rfl, ?_⟩
          rw [HR.out]
          exact (h2.drop.drop).rows_nil (cInt .i64) 3
        | true =>
          rw [cx] at CX
          cases cy : b.contains (-v) with
          | false =>
            rw [cy] at CY
            have HR := Lib.hid (HRV.out.trans (if_pos (by rw [cx, cy]; rfl)))
            clear cx cy
            go_wp2_with (go_at_call 38; first | (refine CX.mono ?_; rintro e w' ⟨rfl, rfl⟩) | (refine CY.mono ?_; rintro e w' ⟨rfl, rfl⟩))
            go_ret2
            refine ⟨_, by rw [HR.out]; rfl, ?_⟩
            rw [HR.out]
            exact (h2.drop.drop).rows_nil (cInt .i64) 3
          | true =>
            rw [cy] at CY
            have HR := Lib.hid (HRV.out.trans (if_neg (by rw [cx, cy]; decide)))
            clear cx cy HRV
            obtain ⟨Ax, cxx, rfl, -, -⟩ := (h2.pull 1).rd
            obtain ⟨Ay, cyy, rfl, -, -⟩ := h2.rd
            go_wp2_with (go_at_call 38; first | (refine CX.mono ?_; rintro e w' ⟨rfl, rfl⟩) | (refine CY.mono ?_; rintro e w' ⟨rfl, rfl⟩))
            clear CX CY
            have h3 : SL.St w0 (Arr (cInt .i64) 3 (.slice none 0 0) ((SA.take 0).filter (· != v)) :: Arr (cInt .i64) 3 (.slice Ay SB.length cyy) SB :: Arr (cInt .i64) 3 (.slice Ax SA.length cxx) SA :: l) _ := h2.rows_nil (cInt .i64) 3
            clear h2
            go_loopg [13, 60] SA.length (fun k vl i wr => ∃ j : Nat, j ≤ SA.length ∧ k = SA.length - j ∧ i = .int .i64 j ∧ SL.St w0 (Arr (cInt .i64) 3 vl ((SA.take j).filter (· != v)) :: Arr (cInt .i64) 3 (.slice Ay SB.length cyy) SB :: Arr (cInt .i64) 3 (.slice Ax SA.length cxx) SA :: l) wr)
            case atStart => exact ⟨0, Nat.zero_le _, rfl, rfl, h3⟩
            case round =>
              clear h3
              obtain ⟨j, hj, hgk, rfl, hsr⟩ := hrel
              subst hgk
              have hfl : ((SA.take j).filter (· != v)).length ≤ j := Nat.le_trans (List.length_filter_le _ _) (by simp; omega)
              by_cases hlt : j < SA.length
              · obtain ⟨Ax', c', hv, -, hc⟩ := (hsr.pull 2).rd
                obtain rfl : Ax = Ax' := by injection hv
                obtain ⟨ad, rfl, hcell⟩ := rd_at_int hc j hlt
                clear hv hc
                have HT := Lib.hid (filter_take_succ SA (· != v) j hlt)
                generalize SA[j] = y at *
                have HFL := Lib.hid hfl; clear hfl
                generalize (SA.take j).filter (· != v) = FL at *
                by_cases hy : y = v
                · have d : (y != v) = false := by simp [hy]
                  have HY := Lib.hid d
                  clear hy
                  go_wp2_with fail
                  go_roundg (SA.length - (j + 1))
                  case measure => omega
                  case rel => exact ⟨j + 1, by omega, rfl, by go_num, by rw [HT.out, if_neg (by rw [HY.out]; decide), List.append_nil]; exact hsr⟩
                · have d : (y != v) = true := by simp [hy]
                  have HY := Lib.hid d
                  clear hy
                  have hA := hsr.alloc (.cells #[.int .i64 y] 3)
                  go_wp2_with (at_builtin; go_loud (refine wpList_app rfl _ _ rfl Tryd.underlying51 infoInt rfl (hA.pull 1) rfl (ys := ([y] : List Int)) rfl (hA.rd_blk (d := cInt .i64) (ys := ([y] : List Int)) 1 1 rfl rfl (by decide)) (by have := HFL.out; simp; omega) (by have := HFL.out; simp; omega) ?_); go_loud (intro vo w3 h4))
                  go_roundg (SA.length - (j + 1))
                  case measure => omega
                  case rel => exact ⟨j + 1, by omega, rfl, by go_num, by rw [HT.out, if_pos HY.out]; exact h4.sel [0] 1⟩
              · obtain rfl : j = SA.length := by omega
                rw [List.take_length] at hsr hfl
                go_wp2_with fail
                have HFA := Lib.hid (show ∀ x ∈ SA.filter (· != v), litOk x = true from fun x hx => HLA.out x (List.mem_filter.1 hx).1)
                have HRC := Lib.hid (show resC SA SB v = SA.filter (· != v) ++ SB.filter (· != -v) from rfl)
                generalize SA.filter (· != v) = FA at *
                rw [show FA = FA ++ (SB.take 0).filter (· != -v) by simp] at hsr
                go_loopg [13, 74] SB.length (fun k vl i wr => ∃ j : Nat, j ≤ SB.length ∧ k = SB.length - j ∧ i = .int .i64 j ∧ SL.St w0 (Arr (cInt .i64) 3 vl (FA ++ (SB.take j).filter (· != -v)) :: Arr (cInt .i64) 3 (.slice Ay SB.length cyy) SB :: Arr (cInt .i64) 3 (.slice Ax SA.length cxx) SA :: l) wr)
                case atStart => exact ⟨0, Nat.zero_le _, rfl, rfl, hsr⟩
                case round =>
                  clear hsr
                  obtain ⟨j, hj, hgk, rfl, hsr⟩ := hrel
                  subst hgk
                  have hfl2 : ((SB.take j).filter (· != -v)).length ≤ j := Nat.le_trans (List.length_filter_le _ _) (by simp; omega)
                  by_cases hlt : j < SB.length
                  · obtain ⟨Ay', c', hv, -, hc⟩ := (hsr.pull 1).rd
                    obtain rfl : Ay = Ay' := by injection hv
                    obtain ⟨ad, rfl, hcell⟩ := rd_at_int hc j hlt
                    clear hv hc
                    have HT := Lib.hid (filter_take_succ SB (· != -v) j hlt)
                    generalize SB[j] = y at *
                    have HFL := Lib.hid (And.intro hfl hfl2); clear hfl hfl2
                    generalize (SB.take j).filter (· != -v) = FL at *
                    by_cases hy : y = -v
                    · have d : (y != -v) = false := by simp [hy]
                      have HY := Lib.hid d
                      clear hy
                      go_wp2_with fail
                      go_roundg (SB.length - (j + 1))
                      case measure => omega
                      case rel => exact ⟨j + 1, by omega, rfl, by go_num, by rw [HT.out, if_neg (by rw [HY.out]; decide), List.append_nil]; exact hsr⟩
                    · have d : (y != -v) = true := by simp [hy]
                      have HY := Lib.hid d
                      clear hy
                      have hA := hsr.alloc (.cells #[.int .i64 y] 3)
                      go_wp2_with (at_builtin; go_loud (refine wpList_app rfl _ _ rfl Tryd.underlying51 infoInt rfl (hA.pull 1) rfl (ys := ([y] : List Int)) rfl (hA.rd_blk (d := cInt .i64) (ys := ([y] : List Int)) 1 1 rfl rfl (by decide)) (by have := HFL.out; simp; omega) (by have := HFL.out; simp; omega) ?_); go_loud (intro vo w3 h4))
                      go_roundg (SB.length - (j + 1))
                      case measure => omega
                      case rel => exact ⟨j + 1, by omega, rfl, by go_num, by rw [HT.out, if_pos HY.out, ← List.append_assoc]; exact h4.sel [0] 1⟩
                  · obtain rfl : j = SB.length := by omega
                    rw [List.take_length] at hsr hfl2
                    have hl2 : (FA ++ SB.filter (· != -v)).length ≤ 1048576 := by rw [List.length_append]; omega
                    rw [← HRC.out] at hsr hl2
                    have NW := normed_walk w0 _ _ hsr _ (resC SA SB v) hsr.rd (by
                      rw [HRC.out]
                      intro x hx
                      rcases List.mem_append.1 hx with hx | hx
                      · exact HFA.out x hx
                      · exact HLB.out x (List.mem_filter.1 hx).1) hl2
                    rw [HCT.out] at NW
                    clear hl2 hfl hfl2 hsr
                    go_wp2_with fail
                    refine NW.mono ?_
                    rintro e w4 ⟨v4, rfl, h4⟩
                    clear NW
                    obtain ⟨A4, c4, rfl, -, -⟩ := h4.rd
                    by_cases hbig : 65536 < SC.length
                    · have d3 : decide ((65536 : Int) < (SC.length : Int)) = true := decide_eq_true (by omega)
                      have HR2 := Lib.hid (HR.out.trans (if_pos hbig))
                      clear hbig
                      go_wp2_with fail
                      go_ret2
                      refine ⟨_, by rw [HR2.out]; rfl, ?_⟩
                      rw [HR2.out]
                      exact (h4.drop.drop.drop.drop).rows_nil (cInt .i64) 3
                    · have d3 : decide ((65536 : Int) < (SC.length : Int)) = false := decide_eq_false (by omega)
                      have HR2 := Lib.hid (HR.out.trans (if_neg hbig))
                      clear hbig
                      go_wp2_with fail
                      go_ret2
                      refine ⟨_, by rw [HR2.out]; rfl, ?_⟩
                      rw [HR2.out]
                      exact h4.sel [0] 3
    · have d : (normE b != 0) = true := by simp [eb]
      have HR := Lib.hid (hRa.trans (if_pos eb)); clear hRa
      have HSB := Lib.hid (show normS b = [] from if_neg eb)
      go_enter Tryd.func27, Tryd.ntmps27
      go_wp2_with fail
      refine NA.mono ?_
      rintro e w1 ⟨vx, rfl, h1⟩
      have NB := norm_walk w0 w1 _ h1 vb b ((Ent.tail HB.out).use h1) hIb
      rw [HSB.out] at NB
      clear NA hIb eb
      generalize normE b = E at *
      go_wp2_with fail
      refine NB.mono ?_
      rintro e w2 ⟨vy, rfl, h2⟩
      go_wp2_with fail
      go_ret2
      refine ⟨_, by rw [HR.out]; rfl, ?_⟩
      rw [HR.out]
      exact (h2.drop.drop).rows_nil (cInt .i64) 3
  · have d : (normE a != 0) = true := by simp [ea]
    have HR := Lib.hid (hR.trans (if_pos ea)); clear hR
    clear ea
    generalize normE a = E at *
    go_enter Tryd.func27, Tryd.ntmps27
    go_wp2_with fail
    refine NA.mono ?_
    rintro e w1 ⟨vx, rfl, h1⟩
    go_wp2_with fail
    go_ret2
    refine ⟨_, by rw [HR.out]; rfl, ?_⟩
    rw [HR.out]
    exact h1.drop.rows_nil (cInt .i64) 3
end Go.Proofs.YtnmkdhoijdoccaaDoor
