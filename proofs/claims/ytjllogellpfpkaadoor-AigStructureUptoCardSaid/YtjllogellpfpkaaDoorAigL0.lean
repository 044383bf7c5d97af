/- Are two rows the same? -/
import Derived.Test.YtjllogellpfpkaaDoorAigK0
set_option linter.unusedVariables false
set_option linter.unusedSimpArgs false
namespace Go.Proofs.YtjllogellpfpkaaDoor
open Go Go.RowKit SL

set_option maxHeartbeats 1000000 in
theorem sameBools_walk (w0 w : World) (l : List HP) (h : SL.St w0 l w) (v v' : Value) (xs ys : List Bool) (hx : Ent l (Rd cBool v xs)) (hy : Ent l (Rd cBool v' ys)) :
    Calls Tryd.prog 22 #[v, v'] w fun e w' => e = .returned (.bool (decide (xs = ys))) ∧ SL.St w0 l w' := by
  obtain ⟨A, c, hv, hm, -⟩ := hx.use h
  subst hv
  obtain ⟨B, d, hv, hm', -⟩ := hy.use h
  subst hv
  unfold maxLen at hm hm'
  by_cases hlen : xs.length = ys.length
  · have hne : ((xs.length : Int) != (ys.length : Int)) = false := by simp [hlen]
    have HLEN := Lib.hid hlen; clear hlen
    go_enter Tryd.func22, Tryd.ntmps22
    go_wp2_with fail
    clear hne
    go_loopg [5] xs.length (fun k i wr => ∃ j : Nat, j ≤ xs.length ∧ k = xs.length - j ∧ i = .int .i64 j ∧ xs.take j = ys.take j ∧ SL.St w0 l wr)
    case atStart => exact ⟨0, Nat.zero_le _, rfl, rfl, rfl, h⟩
    case round =>
      obtain ⟨j, hj, hgk, rfl, hT, hsr⟩ := hrel
      subst hgk
      by_cases hlt : j < xs.length
      · have hlt2 : j < ys.length := by rw [← HLEN.out]; exact hlt
        obtain ⟨A', c', hv, -, hc⟩ := hx.use hsr
        obtain ⟨ad, hA', hcell⟩ := rd_at_bool hc j hlt
        obtain rfl : A = some ad := by
          have : A' = A := by injection hv with h1; exact h1.symm
          rw [← this]; exact hA'
        obtain ⟨B', d', hv', -, hc'⟩ := hy.use hsr
        obtain ⟨bd, hB', hcell'⟩ := rd_at_bool hc' j hlt2
        obtain rfl : B = some bd := by
          have : B' = B := by injection hv' with h1; exact h1.symm
          rw [← this]; exact hB'
        have HX := Lib.hid (show xs.take (j + 1) = xs.take j ++ [xs[j]] from List.take_succ_eq_append_getElem hlt)
        have HY := Lib.hid (show ys.take (j + 1) = ys.take j ++ [ys[j]'hlt2] from List.take_succ_eq_append_getElem hlt2)
        have HN := Lib.hid (show xs = ys → xs[j] = ys[j]'hlt2 from fun e => by subst e; rfl)
        have HT := Lib.hid hT
        clear hc hc' hv hv' hA' hB' hT
        generalize hxj : xs[j] = x at *
        generalize hyj : ys[j]'hlt2 = y at *
        clear hxj hyj
        have r1 := Ext.rule hcell
        have r2 := Ext.rule hcell'
        by_cases hxy : x = y
        · have hb : (!x == y) = false := by subst hxy; simp
          have HE := Lib.hid hxy; clear hxy
          go_wp2_with fail
          -- region 6 of cadence/cadencelaw10.sameBools: 0:move 1:move 2:indexAddr 3:load 4:move 5:move 6:indexAddr 7:load 8:binOp
          refine wp_region_plan (Ext wr) [(0, 0), (1, 0), (2, 0), (3, 1), (4, 1), (5, 1), (6, 1), (7, 1)] 8 (by kernel_rfl) (by kernel_rfl) ?_
          have hx0 : Ext wr wr.drew := Ext.refl wr
          iterate 3 (first | (refine plan_skip rfl rfl ?_; simp only [Act.put, List.setIfInBounds_toArray, List.set_cons_zero, List.set_cons_succ]) | (refine plan_pure (v := ?_) rfl rfl (fun _ => ?_) ?_; rotate_left; (focus (go_simp; try with_reducible rfl; done)); simp only [Act.put, List.setIfInBounds_toArray, List.set_cons_zero, List.set_cons_succ]))
          iterate 5 (first | (refine plan_held_skip rfl rfl (by assumption) ?_; simp only [Act.put, List.setIfInBounds_toArray, List.set_cons_zero, List.set_cons_succ]) | (refine plan_held (v := ?_) rfl rfl (fun _ hSw => ?_) (by assumption) ?_; rotate_left; (focus (go_simp; try with_reducible rfl; done)); simp only [Act.put, List.setIfInBounds_toArray, List.set_cons_zero, List.set_cons_succ]))
          refine plan_end ?_
          simp only [List.drop]
          go_wp2_with fail
          try refine NoPanic.normal ?_
          go_wp2_with fail
          go_roundg (xs.length - (j + 1))
          case measure => omega
          case rel => exact ⟨j + 1, by omega, rfl, by go_num, by rw [HX.out, HY.out, HT.out, HE.out], hsr.drew⟩
        · have hb : (!x == y) = true := by cases x <;> cases y <;> simp_all
          have HE := Lib.hid hxy; clear hxy
          go_wp2_with fail
          -- region 6 of cadence/cadencelaw10.sameBools: 0:move 1:move 2:indexAddr 3:load 4:move 5:move 6:indexAddr 7:load 8:binOp
          refine wp_region_plan (Ext wr) [(0, 0), (1, 0), (2, 0), (3, 1), (4, 1), (5, 1), (6, 1), (7, 1)] 8 (by kernel_rfl) (by kernel_rfl) ?_
          have hx0 : Ext wr wr.drew := Ext.refl wr
          iterate 3 (first | (refine plan_skip rfl rfl ?_; simp only [Act.put, List.setIfInBounds_toArray, List.set_cons_zero, List.set_cons_succ]) | (refine plan_pure (v := ?_) rfl rfl (fun _ => ?_) ?_; rotate_left; (focus (go_simp; try with_reducible rfl; done)); simp only [Act.put, List.setIfInBounds_toArray, List.set_cons_zero, List.set_cons_succ]))
          iterate 5 (first | (refine plan_held_skip rfl rfl (by assumption) ?_; simp only [Act.put, List.setIfInBounds_toArray, List.set_cons_zero, List.set_cons_succ]) | (refine plan_held (v := ?_) rfl rfl (fun _ hSw => ?_) (by assumption) ?_; rotate_left; (focus (go_simp; try with_reducible rfl; done)); simp only [Act.put, List.setIfInBounds_toArray, List.set_cons_zero, List.set_cons_succ]))
          refine plan_end ?_
          simp only [List.drop]
          go_wp2_with fail
          try refine NoPanic.normal ?_
          go_wp2_with fail
          go_ret
          exact ⟨by rw [decide_eq_false (fun e => HE.out (HN.out e))]; rfl, hsr.drew⟩
      · obtain rfl : j = xs.length := by omega
        have HT := Lib.hid hT; clear hT
        go_wp2_with fail
        go_ret
        refine ⟨?_, hsr⟩
        have h1 := HT.out
        rw [List.take_length, HLEN.out, List.take_length] at h1
        simp [h1]
  · have hne : ((xs.length : Int) != (ys.length : Int)) = true := by simp; omega
    have HL := Lib.hid hlen; clear hlen
    go_enter Tryd.func22, Tryd.ntmps22
    go_wp2_with fail
    go_ret
    refine ⟨?_, h⟩
    rw [decide_eq_false (fun e => HL.out (by rw [e]))]
    rfl

set_option maxHeartbeats 1000000 in
theorem sameInts_walk (w0 w : World) (l : List HP) (h : SL.St w0 l w) (v v' : Value) (xs ys : List Nat) (hx : Ent l (Rd (cNat .i64) v xs)) (hy : Ent l (Rd (cNat .i64) v' ys)) :
    Calls Tryd.prog 38 #[v, v'] w fun e w' => e = .returned (.bool (decide (xs = ys))) ∧ SL.St w0 l w' := by
  obtain ⟨A, c, hv, hm, -⟩ := hx.use h
  subst hv
  obtain ⟨B, d, hv, hm', -⟩ := hy.use h
  subst hv
  unfold maxLen at hm hm'
  by_cases hlen : xs.length = ys.length
  · have hne : ((xs.length : Int) != (ys.length : Int)) = false := by simp [hlen]
    have HLEN := Lib.hid hlen; clear hlen
    go_enter Tryd.func38, Tryd.ntmps38
    go_wp2_with fail
    clear hne
    go_loopg [5] xs.length (fun k i wr => ∃ j : Nat, j ≤ xs.length ∧ k = xs.length - j ∧ i = .int .i64 j ∧ xs.take j = ys.take j ∧ SL.St w0 l wr)
    case atStart => exact ⟨0, Nat.zero_le _, rfl, rfl, rfl, h⟩
    case round =>
      obtain ⟨j, hj, hgk, rfl, hT, hsr⟩ := hrel
      subst hgk
      by_cases hlt : j < xs.length
      · have hlt2 : j < ys.length := by rw [← HLEN.out]; exact hlt
        obtain ⟨A', c', hv, -, hc⟩ := hx.use hsr
        obtain ⟨ad, hA', hcell⟩ := rd_at hc j hlt
        obtain rfl : A = some ad := by
          have : A' = A := by injection hv with h1; exact h1.symm
          rw [← this]; exact hA'
        obtain ⟨B', d', hv', -, hc'⟩ := hy.use hsr
        obtain ⟨bd, hB', hcell'⟩ := rd_at hc' j hlt2
        obtain rfl : B = some bd := by
          have : B' = B := by injection hv' with h1; exact h1.symm
          rw [← this]; exact hB'
        have HX := Lib.hid (show xs.take (j + 1) = xs.take j ++ [xs[j]] from List.take_succ_eq_append_getElem hlt)
        have HY := Lib.hid (show ys.take (j + 1) = ys.take j ++ [ys[j]'hlt2] from List.take_succ_eq_append_getElem hlt2)
        have HN := Lib.hid (show xs = ys → xs[j] = ys[j]'hlt2 from fun e => by subst e; rfl)
        have HT := Lib.hid hT
        clear hc hc' hv hv' hA' hB' hT
        generalize hxj : xs[j] = x at *
        generalize hyj : ys[j]'hlt2 = y at *
        clear hxj hyj
        have r1 := Ext.rule hcell
        have r2 := Ext.rule hcell'
        by_cases hxy : x = y
        · have hb : ((x : Int) != (y : Int)) = false := by subst hxy; simp
          have HE := Lib.hid hxy; clear hxy
          go_wp2_with fail
          -- region 6 of cadence/cadencelaw10.sameInts: 0:move 1:move 2:indexAddr 3:load 4:move 5:move 6:indexAddr 7:load 8:binOp
          refine wp_region_plan (Ext wr) [(0, 0), (1, 0), (2, 0), (3, 1), (4, 1), (5, 1), (6, 1), (7, 1)] 8 (by kernel_rfl) (by kernel_rfl) ?_
          have hx0 : Ext wr wr.drew := Ext.refl wr
          iterate 3 (first | (refine plan_skip rfl rfl ?_; simp only [Act.put, List.setIfInBounds_toArray, List.set_cons_zero, List.set_cons_succ]) | (refine plan_pure (v := ?_) rfl rfl (fun _ => ?_) ?_; rotate_left; (focus (go_simp; try with_reducible rfl; done)); simp only [Act.put, List.setIfInBounds_toArray, List.set_cons_zero, List.set_cons_succ]))
          iterate 5 (first | (refine plan_held_skip rfl rfl (by assumption) ?_; simp only [Act.put, List.setIfInBounds_toArray, List.set_cons_zero, List.set_cons_succ]) | (refine plan_held (v := ?_) rfl rfl (fun _ hSw => ?_) (by assumption) ?_; rotate_left; (focus (go_simp; try with_reducible rfl; done)); simp only [Act.put, List.setIfInBounds_toArray, List.set_cons_zero, List.set_cons_succ]))
          refine plan_end ?_
          simp only [List.drop]
          go_wp2_with fail
          try refine NoPanic.normal ?_
          go_wp2_with fail
          go_roundg (xs.length - (j + 1))
          case measure => omega
          case rel => exact ⟨j + 1, by omega, rfl, by go_num, by rw [HX.out, HY.out, HT.out, HE.out], hsr.drew⟩
        · have hb : ((x : Int) != (y : Int)) = true := by rw [bne_iff_ne]; omega
          have HE := Lib.hid hxy; clear hxy
          go_wp2_with fail
          -- region 6 of cadence/cadencelaw10.sameInts: 0:move 1:move 2:indexAddr 3:load 4:move 5:move 6:indexAddr 7:load 8:binOp
          refine wp_region_plan (Ext wr) [(0, 0), (1, 0), (2, 0), (3, 1), (4, 1), (5, 1), (6, 1), (7, 1)] 8 (by kernel_rfl) (by kernel_rfl) ?_
          have hx0 : Ext wr wr.drew := Ext.refl wr
          iterate 3 (first | (refine plan_skip rfl rfl ?_; simp only [Act.put, List.setIfInBounds_toArray, List.set_cons_zero, List.set_cons_succ]) | (refine plan_pure (v := ?_) rfl rfl (fun _ => ?_) ?_; rotate_left; (focus (go_simp; try with_reducible rfl; done)); simp only [Act.put, List.setIfInBounds_toArray, List.set_cons_zero, List.set_cons_succ]))
          iterate 5 (first | (refine plan_held_skip rfl rfl (by assumption) ?_; simp only [Act.put, List.setIfInBounds_toArray, List.set_cons_zero, List.set_cons_succ]) | (refine plan_held (v := ?_) rfl rfl (fun _ hSw => ?_) (by assumption) ?_; rotate_left; (focus (go_simp; try with_reducible rfl; done)); simp only [Act.put, List.setIfInBounds_toArray, List.set_cons_zero, List.set_cons_succ]))
          refine plan_end ?_
          simp only [List.drop]
          go_wp2_with fail
          try refine NoPanic.normal ?_
          go_wp2_with fail
          go_ret
          exact ⟨by rw [decide_eq_false (fun e => HE.out (HN.out e))]; rfl, hsr.drew⟩
      · obtain rfl : j = xs.length := by omega
        have HT := Lib.hid hT; clear hT
        go_wp2_with fail
        go_ret
        refine ⟨?_, hsr⟩
        have h1 := HT.out
        rw [List.take_length, HLEN.out, List.take_length] at h1
        simp [h1]
  · have hne : ((xs.length : Int) != (ys.length : Int)) = true := by simp; omega
    have HL := Lib.hid hlen; clear hlen
    go_enter Tryd.func38, Tryd.ntmps38
    go_wp2_with fail
    go_ret
    refine ⟨?_, h⟩
    rw [decide_eq_false (fun e => HL.out (by rw [e]))]
    rfl

end Go.Proofs.YtjllogellpfpkaaDoor
