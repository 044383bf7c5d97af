/- The reference's Lift. -/
import Derived.Test.YtjeopmiopinlgaaTsN
import Derived.Test.YtjeopmiopinlgaaTsE
set_option linter.unusedVariables false
set_option linter.unusedSimpArgs false
namespace Go.Proofs.Ytjeopmiopinlgaa
open Go Go.RowKit SL

theorem rLift_nil (w : World) (vc vm : Value) :
    Calls Try.prog 27 #[.pointer none, vc, vm] w fun e w' => w = w' ∧ e = .returned (.tuple #[.slice none 0 0, .int .i64 2]) := by
  go_enter Try.func27, Try.ntmps27
  go_wp2_with fail
  go_ret2
  exact ⟨rfl, rfl⟩

set_option maxRecDepth 100000 in
set_option maxHeartbeats 8000000 in
theorem rLift_bad (w0 w : World) (l : List HP) (r NI : Nat) (ns : Nodes) (h : SL.St w0 (RGraph r (rnodes ns) NI :: l) w) (hl : ns.length ≤ 1048577) (vc vm : Value) (K : List Int) (hk : Ent l (Rd (cInt .i64) vc K)) (hkb : ∀ n ∈ K, -9223372036854775808 ≤ n ∧ n ≤ 9223372036854775807) (hx : ¬ inGraph ns K) :
    Calls Try.prog 27 #[.pointer (some ⟨r, 0, none⟩), vc, vm] w fun e w' => e = .returned (.tuple #[.slice none 0 0, .int .i64 100]) ∧ SL.St w0 (RGraph r (rnodes ns) NI :: l) w' := by
  obtain ⟨A, c, hv, hm, -⟩ := hk.use h.drop
  subst hv
  unfold maxLen at hm
  have HX := Lib.hid hx; clear hx
  go_enter Try.func27, Try.ntmps27
  go_wp2_with fail
  go_loopg [8] K.length (fun k i wr => ∃ j : Nat, j ≤ K.length ∧ k = K.length - j ∧ i = .int .i64 j ∧ (∀ n ∈ K.take j, 0 ≤ n ∧ n < ns.length) ∧ SL.St w0 (RGraph r (rnodes ns) NI :: l) wr)
  case atStart => exact ⟨0, Nat.zero_le _, rfl, rfl, by simp, h⟩
  case round =>
    clear h
    obtain ⟨j, hj, hgk, rfl, hall, hsr⟩ := hrel
    subst hgk
    have HA := Lib.hid hall; clear hall
    obtain ⟨Ag, cg, g0, -⟩ := rg_slice hsr
    by_cases hlt : j < K.length
    · obtain ⟨A', c', hv, -, hc⟩ := hk.use hsr.drop
      obtain ⟨ad, hA', hcell⟩ := rd_at_int hc j hlt
      obtain rfl : A = some ad := by
        have : A' = A := by injection hv with h1; exact h1.symm
        rw [← this]; exact hA'
      have hb := hkb _ (List.getElem_mem hlt)
      have HT := Lib.hid (show (0 ≤ K[j] ∧ K[j] < ns.length) → ∀ n ∈ K.take (j + 1), 0 ≤ n ∧ n < ns.length from fun h n hn => by
        rw [List.take_succ_eq_append_getElem hlt] at hn
        rcases List.mem_append.1 hn with h1 | h1
        · exact HA.out n h1
        · rw [List.mem_singleton.1 h1]; exact h)
      clear hc hv hA' hkb
      generalize K[j] = n at *
      by_cases h1 : n < 0
      · have d1 : decide (n < 0) = true := by simp [h1]
        go_wp2_with fail
        go_quiet (fail)
        go_wp2_with fail
        go_ret2
        exact ⟨rfl, hsr.drewN _⟩
      have d1 : decide (n < 0) = false := by simp; omega
      have h1' : 0 ≤ n := by omega
      clear h1
      by_cases h2 : n < ns.length
      · have d2 : decide ((ns.length : Int) ≤ n) = false := by simp; omega
        have d3 : decide (n ≥ (ns.length : Int)) = false := by simp; omega
        go_wp2_with fail
        go_quiet (fail)
        go_wp2_with fail
        go_roundg (K.length - (j + 1))
        case measure => omega
        case rel => exact ⟨j + 1, by omega, rfl, by go_num, HT.out ⟨h1', h2⟩, hsr.drewN _⟩
      · have d2 : decide ((ns.length : Int) ≤ n) = true := by simp; omega
        have d3 : decide (n ≥ (ns.length : Int)) = true := by simp; omega
        go_wp2_with fail
        go_quiet (fail)
        go_wp2_with fail
        go_ret2
        exact ⟨rfl, hsr.drewN _⟩
    · obtain rfl : j = K.length := by omega
      exfalso
      have := HA.out
      rw [List.take_length] at this
      exact HX.out this

set_option maxRecDepth 100000 in
set_option maxHeartbeats 8000000 in
theorem rLift_walk (w0 w : World) (l : List HP) (r : Nat) (ns : Nodes) (h : SL.St w0 (RGraph r (rnodes ns) (inputsOf ns).length :: l) w) (hwi : WfIn ns) (hl : ns.length ≤ 1048577) (vc vm : Value) (K m : List Int) (hk : Ent l (Rd (cInt .i64) vc K)) (hm : Ent l (Rd (cInt .i8) vm m)) (hx : inGraph ns K) :
    Calls Try.prog 27 #[.pointer (some ⟨r, 0, none⟩), vc, vm] w fun e w' => ∃ vo, e = .returned (.tuple #[vo, .int .i64 0]) ∧ SL.St w0 (Arr cBool 4 vo (liftM ns K m) :: RGraph r (rnodes ns) (inputsOf ns).length :: l) w' := by
  have hinl := inputsOf_length ns
  obtain ⟨A, c, hv, hml, -⟩ := hk.use h.drop
  subst hv
  obtain ⟨Am, cm, hv, hmm, -⟩ := hm.use h.drop
  subst hv
  unfold maxLen at hml hmm
  have hLM : liftM ns K m = liftFrom ns m (List.replicate (inputsOf ns).length false) 0 K := rfl
  generalize liftM ns K m = LM at hLM ⊢
  have HLM := Lib.hid hLM; clear hLM
  have hmk := run_make_row' (P := Try.prog) 48 4 (.bool false) 1 Try.underlying48 infoBool rfl .i64 .i64 (inputsOf ns).length (by omega) (by omega)
  have HX := Lib.hid hx; clear hx
  have HWI := Lib.hid hwi; clear hwi
  generalize hN : (inputsOf ns).length = N at *
  have HNN := Lib.hid hN; clear hN
  go_enter Try.func27, Try.ntmps27
  go_wp2_with fail
  go_loopg [8] K.length (fun k i wr => ∃ j : Nat, j ≤ K.length ∧ k = K.length - j ∧ i = .int .i64 j ∧ SL.St w0 (RGraph r (rnodes ns) N :: l) wr)
  case atStart => exact ⟨0, Nat.zero_le _, rfl, rfl, h⟩
  case round =>
    clear h
    obtain ⟨j, hj, hgk, rfl, hsr⟩ := hrel
    subst hgk
    obtain ⟨Ag, cg, g0, g1⟩ := rg_slice hsr
    by_cases hlt : j < K.length
    · obtain ⟨A', c', hv, -, hc⟩ := hk.use hsr.drop
      obtain ⟨ad, hA', hcell⟩ := rd_at_int hc j hlt
      obtain rfl : A = some ad := by
        have : A' = A := by injection hv with h1; exact h1.symm
        rw [← this]; exact hA'
      obtain ⟨h1, h2⟩ := HX.out _ (List.getElem_mem hlt)
      clear hc hv hA' hmk
      generalize K[j] = n at *
      have d1 : decide (n < 0) = false := by simp; omega
      have d2 : decide ((ns.length : Int) ≤ n) = false := by simp; omega
      have d3 : decide (n ≥ (ns.length : Int)) = false := by simp; omega
      go_wp2_with fail
      go_quiet (fail)
      go_wp2_with fail
      go_roundg (K.length - (j + 1))
      case measure => omega
      case rel => exact ⟨j + 1, by omega, rfl, by go_num, hsr.drewN _⟩
    · obtain rfl : j = K.length := by omega
      have h2 := (hsr.alloc (.cells (madeCells #[Value.bool false] N) 4)).arr_made (d := cBool) rfl (x := false) rfl (by unfold maxLen; omega)
      go_wp2_with fail
      generalize wr.heap.size = gs at h2 ⊢
      generalize World.alloc wr _ = w2 at h2 ⊢
      clear hmk hsr g0 g1
      go_loopg [10] K.length (fun k i wr => ∃ j : Nat, j ≤ K.length ∧ j = k ∧ i = .int .i64 ((j : Int) - 1) ∧ SL.St w0 (Arr cBool 4 (.slice (some ⟨gs, 0, none⟩) N N) (liftFrom ns m (List.replicate N false) j (K.drop j)) :: RGraph r (rnodes ns) N :: l) wr)
      case atStart => exact ⟨K.length, Nat.le_refl _, rfl, rfl, by rw [List.drop_length]; exact h2⟩
      case round =>
        clear h2
        obtain ⟨j, hj, hgk, rfl, hsr⟩ := hrel
        subst hgk
        by_cases h0 : j = 0
        · subst h0
          rw [List.drop_zero] at hsr
          go_wp2_with fail
          go_ret2
          refine ⟨_, rfl, ?_⟩
          rw [HLM.out]
          exact hsr
        · obtain ⟨j, rfl⟩ : ∃ m, j = m + 1 := ⟨j - 1, by omega⟩
          have hlt : j < K.length := by omega
          rw [show ((j + 1 : Nat) : Int) - 1 = (j : Int) by omega]
          obtain ⟨A', c', hv, -, hc⟩ := hk.use hsr.drop.drop
          obtain ⟨ad, hA', hcell⟩ := rd_at_int hc j hlt
          obtain rfl : A = some ad := by
            have : A' = A := by injection hv with h1; exact h1.symm
            rw [← this]; exact hA'
          have HT := Lib.hid (show liftFrom ns m (List.replicate N false) j (K.drop j) = liftStep ns m j K[j] (liftFrom ns m (List.replicate N false) (j + 1) (K.drop (j + 1))) by rw [List.drop_eq_getElem_cons hlt, liftFrom])
          have hfl := liftFrom_length ns m (List.replicate N false) (j + 1) (K.drop (j + 1))
          rw [List.length_replicate] at hfl
          obtain ⟨hn1, hn2⟩ := HX.out _ (List.getElem_mem hlt)
          clear hc hv hA' h0
          generalize liftFrom ns m (List.replicate N false) (j + 1) (K.drop (j + 1)) = a at *
          generalize K[j] = n at *
          obtain ⟨n, rfl⟩ := Int.eq_ofNat_of_zero_le hn1
          have hn3 : n < ns.length := by omega
          clear hn1
          have HFL := Lib.hid hfl; clear hfl
          obtain ⟨gL, cc, g0, -, gr⟩ := rg_read (hsr.pull 1) (by omega)
          obtain ⟨n0, n1, n2⟩ := gr n hn3
          clear gr
          have hls : liftStep ns m j (n : Int) a = if (nodeM ns n).1 = 1 then a.set (nodeM ns n).2.1 (decide (j < m.length) && (m.getD j 0 == 1)) else a := by
            unfold liftStep; rw [Int.toNat_natCast]
          generalize liftStep ns m j (n : Int) a = LS at *
          have hka : (nodeM ns n).1 = 1 → (nodeM ns n).2.1 < N := by
            intro h1
            unfold nodeM at h1 ⊢
            by_cases hn0 : n = 0
            · rw [if_pos hn0] at h1; simp at h1
            rw [if_neg hn0] at h1 ⊢
            by_cases hm0 : (ns.getD n (0, 0)).1 = mark
            · rw [if_pos hm0]
              rw [← HNN.out]
              exact HWI.out n hn3 hn0 (by unfold isGate; simp [hn0]; exact hm0)
            · rw [if_neg hm0] at h1; simp at h1
          generalize nodeM ns n = M at *
          obtain ⟨M1, X, Y⟩ := M
          simp only at hls hka n0 n1 n2 ⊢
          have q0 := Ext.rule g0
          have q1 := Ext.rule n0
          have q2 := Ext.rule n1
          have q3 := Ext.rule n2
          have q4 := Ext.rule hcell
          have h3 : SL.St w0 (Arr cBool 4 (.slice (some ⟨gs, 0, none⟩) N N) a :: RGraph r (rnodes ns) N :: Blk wr.heap.size (.cells #[.int .i64 (M1 : Nat), .int .u32 (X : Nat), .int .u32 (Y : Nat)] 111 (0, 0)) :: l) (wr.alloc (.cells #[.int .i64 (M1 : Nat), .int .u32 (X : Nat), .int .u32 (Y : Nat)] 111)).drew := (SL.St.drew (hsr.alloc _)).sel [1, 2, 0]
          by_cases h1 : M1 = 1
          · have e1 : ((M1 : Int) == 1) = true := by simp [h1]
            have hX := hka h1
            rw [if_pos h1] at hls
            clear h1 hka
            go_wp2_with fail
            -- region 12 of cadence/cadenceref12.Lift: 0:move 1:nilCheck 2:fieldAddr 3:load 4:move 5:move 6:indexAddr 7:load 8:indexAddr 9:load 10:alloc 11:store
            refine wp_region_plan (Ext wr) [(0, 0), (1, 0), (2, 0), (3, 1), (4, 1), (5, 1), (6, 1), (7, 1), (8, 0), (9, 1), (10, 2)] 11 (by kernel_rfl) (by kernel_rfl) ?_
            have hx0 : Ext wr wr.drew := Ext.refl wr
            iterate 3 (first | (refine plan_skip rfl rfl ?_; simp only [Act.put, List.setIfInBounds_toArray, List.set_cons_zero, List.set_cons_succ]) | (refine plan_pure (v := ?_) rfl rfl (fun _ => ?_) ?_; rotate_left; (focus (go_simp; try with_reducible rfl; done)); simp only [Act.put, List.setIfInBounds_toArray, List.set_cons_zero, List.set_cons_succ]))
            iterate 5 (first | (refine plan_held_skip rfl rfl (by assumption) ?_; simp only [Act.put, List.setIfInBounds_toArray, List.set_cons_zero, List.set_cons_succ]) | (refine plan_held (v := ?_) rfl rfl (fun _ hSw => ?_) (by assumption) ?_; rotate_left; (focus (go_simp; try with_reducible rfl; done)); simp only [Act.put, List.setIfInBounds_toArray, List.set_cons_zero, List.set_cons_succ]))
            iterate 1 (first | (refine plan_skip rfl rfl ?_; simp only [Act.put, List.setIfInBounds_toArray, List.set_cons_zero, List.set_cons_succ]) | (refine plan_pure (v := ?_) rfl rfl (fun _ => ?_) ?_; rotate_left; (focus (go_simp; try with_reducible rfl; done)); simp only [Act.put, List.setIfInBounds_toArray, List.set_cons_zero, List.set_cons_succ]))
            iterate 1 (first | (refine plan_held_skip rfl rfl (by assumption) ?_; simp only [Act.put, List.setIfInBounds_toArray, List.set_cons_zero, List.set_cons_succ]) | (refine plan_held (v := ?_) rfl rfl (fun _ hSw => ?_) (by assumption) ?_; rotate_left; (focus (go_simp; try with_reducible rfl; done)); simp only [Act.put, List.setIfInBounds_toArray, List.set_cons_zero, List.set_cons_succ]))
            ((refine plan_eff rfl (fun K hK => ?_)); go_simp; (refine hK _ _ ⟨by repeat (first | exact Ext.refl _ | apply Ext.drew | apply Ext.alloc), ?_⟩); clear hK K)
            -- (Ext behind op 10)
            refine plan_end ?_
            simp only [List.drop]
            clear q0 q1 q2 q3 q4 hx0 g0 n0 n1 n2 hcell
            go_wp2_with (refine NoPanic.normal ?_)
            generalize wr.heap.size = kk at h3 ⊢
            generalize World.drew _ = w3 at h3 ⊢
            clear hsr
            have k0 : w3.cell? ⟨kk, 1, none⟩ = some (.int .u32 (X : Nat)) := (h3.pull 2).cell 1
            by_cases hjm : j < m.length
            · obtain ⟨B', c', hv, -, hc⟩ := hm.use (h3.sel [] 3)
              obtain ⟨bd, hB', hcell2⟩ := rd_at_int hc j hjm
              obtain rfl : Am = some bd := by
                have : B' = Am := by injection hv with h1; exact h1.symm
                rw [← this]; exact hB'
              have hgd : m.getD j 0 = m[j] := by simp [List.getD_eq_getElem?_getD, hjm]
              have d1 : decide ((j : Int) < (m.length : Int)) = true := by simp; omega
              rw [decide_eq_true hjm, Bool.true_and, hgd] at hls
              clear hc hv hB' hgd
              generalize m[j] = y at *
              have HLS := Lib.hid hls; clear hls
              obtain ⟨c0, c1⟩ := h3.arr_cell1 rfl X _ (List.getElem?_eq_getElem (by rw [HFL.out]; exact hX)) _ rfl
              have hset := fun b => SL.St.drew (h3.arr_set1 rfl X (by rw [HFL.out]; exact hX) b _ rfl)
              have HSET := Lib.hid hset; clear hset
              go_still_tail 14, (by kernel_rfl)
              change wpList _ _ _ _ _ w3.drew
              go_wp2_with fail
              go_roundg j
              case measure => omega
              case rel => exact ⟨j, by omega, rfl, rfl, by rw [HT.out, HLS.out]; exact (HSET.out _).sel [0, 1] 1⟩
            · have d1 : decide ((j : Int) < (m.length : Int)) = false := by simp; omega
              rw [decide_eq_false hjm, Bool.false_and] at hls
              have HLS := Lib.hid hls; clear hls
              obtain ⟨c0, c1⟩ := h3.arr_cell1 rfl X _ (List.getElem?_eq_getElem (by rw [HFL.out]; exact hX)) _ rfl
              have hset := fun b => SL.St.drew (h3.arr_set1 rfl X (by rw [HFL.out]; exact hX) b _ rfl)
              have HSET := Lib.hid hset; clear hset
              go_still_tail 14, (by kernel_rfl)
              change wpList _ _ _ _ _ w3.drew
              go_wp2_with fail
              go_roundg j
              case measure => omega
              case rel => exact ⟨j, by omega, rfl, rfl, by rw [HT.out, HLS.out]; exact (HSET.out _).sel [0, 1] 1⟩
          · have e1 : ((M1 : Int) == 1) = false := by simp; omega
            rw [if_neg h1] at hls
            have HLS := Lib.hid hls; clear h1 hka hls
            go_wp2_with fail
            -- region 12 of cadence/cadenceref12.Lift: 0:move 1:nilCheck 2:fieldAddr 3:load 4:move 5:move 6:indexAddr 7:load 8:indexAddr 9:load 10:alloc 11:store
            refine wp_region_plan (Ext wr) [(0, 0), (1, 0), (2, 0), (3, 1), (4, 1), (5, 1), (6, 1), (7, 1), (8, 0), (9, 1), (10, 2)] 11 (by kernel_rfl) (by kernel_rfl) ?_
            have hx0 : Ext wr wr.drew := Ext.refl wr
            iterate 3 (first | (refine plan_skip rfl rfl ?_; simp only [Act.put, List.setIfInBounds_toArray, List.set_cons_zero, List.set_cons_succ]) | (refine plan_pure (v := ?_) rfl rfl (fun _ => ?_) ?_; rotate_left; (focus (go_simp; try with_reducible rfl; done)); simp only [Act.put, List.setIfInBounds_toArray, List.set_cons_zero, List.set_cons_succ]))
            iterate 5 (first | (refine plan_held_skip rfl rfl (by assumption) ?_; simp only [Act.put, List.setIfInBounds_toArray, List.set_cons_zero, List.set_cons_succ]) | (refine plan_held (v := ?_) rfl rfl (fun _ hSw => ?_) (by assumption) ?_; rotate_left; (focus (go_simp; try with_reducible rfl; done)); simp only [Act.put, List.setIfInBounds_toArray, List.set_cons_zero, List.set_cons_succ]))
            iterate 1 (first | (refine plan_skip rfl rfl ?_; simp only [Act.put, List.setIfInBounds_toArray, List.set_cons_zero, List.set_cons_succ]) | (refine plan_pure (v := ?_) rfl rfl (fun _ => ?_) ?_; rotate_left; (focus (go_simp; try with_reducible rfl; done)); simp only [Act.put, List.setIfInBounds_toArray, List.set_cons_zero, List.set_cons_succ]))
            iterate 1 (first | (refine plan_held_skip rfl rfl (by assumption) ?_; simp only [Act.put, List.setIfInBounds_toArray, List.set_cons_zero, List.set_cons_succ]) | (refine plan_held (v := ?_) rfl rfl (fun _ hSw => ?_) (by assumption) ?_; rotate_left; (focus (go_simp; try with_reducible rfl; done)); simp only [Act.put, List.setIfInBounds_toArray, List.set_cons_zero, List.set_cons_succ]))
            ((refine plan_eff rfl (fun K hK => ?_)); go_simp; (refine hK _ _ ⟨by repeat (first | exact Ext.refl _ | apply Ext.drew | apply Ext.alloc), ?_⟩); clear hK K)
            -- (Ext behind op 10)
            refine plan_end ?_
            simp only [List.drop]
            clear q0 q1 q2 q3 q4 hx0 g0 n0 n1 n2 hcell
            go_wp2_with (refine NoPanic.normal ?_)
            go_roundg j
            case measure => omega
            case rel => exact ⟨j, by omega, rfl, rfl, by rw [HT.out, HLS.out]; exact h3.sel [0, 1] 1⟩
end Go.Proofs.Ytjeopmiopinlgaa
