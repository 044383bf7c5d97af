/- The reference's laid. -/
import Derived.Test.YtjeopmiopinlgaaTsRb
import Derived.Test.YtjeopmiopinlgaaTsK
set_option linter.unusedVariables false
set_option linter.unusedSimpArgs false
namespace Go.Proofs.Ytjeopmiopinlgaa
open Go Go.RowKit SL

theorem ibit1 (b : Nat) (h : b < 4) : ((b : Int) % 2 == 1) = decide (b &&& 1 ≠ 0) := by
  rcases b with _ | _ | _ | _ | b <;> first | rfl | omega
theorem ibit1' (b : Nat) (h : b < 4) : (Go.bits .and .i64 (b : Int) 1 == 1) = decide (b &&& 1 ≠ 0) := by
  rcases b with _ | _ | _ | _ | b <;> first | rfl | omega
theorem ibit2 (b : Nat) (h : b < 4) : (Go.bits .and .i64 (b : Int) 2 == 2) = decide (b &&& 2 ≠ 0) := by
  rcases b with _ | _ | _ | _ | b <;> first | rfl | omega


theorem Inn.snoc2 {α : Type} {d : Cd α} {e : TypeId} {ss : List Slc} {xss : List (List α)} {s1 s2 : Slc} {x1 x2 : List α} (hl : ss.length = xss.length) : Inn d e (ss ++ [s1, s2]) (xss ++ [x1, x2]) = Inn d e ss xss ++ [Arr d e s1.val x1, Arr d e s2.val x2] := by
  have e1 : ss ++ [s1, s2] = (ss ++ [s1]) ++ [s2] := by simp
  have e2 : xss ++ [x1, x2] = (xss ++ [x1]) ++ [x2] := by simp
  rw [e1, e2, Inn.snoc d e s2 x2 _ _ (by simp [hl]), Inn.snoc d e s1 x1 _ _ hl, List.append_assoc]
  rfl
theorem St.formShut3 {w0 w : World} {l : List HP} {F n : Nat} {cls : List (List Int)} {c1 c2 c3 : List Int} {ss : List Slc} {s1 s2 s3 : Slc} {v : Value} (hsl : ss.length = cls.length)
    (h : SL.St w0 (Arr cSlc 60 v ((ss ++ [s1, s2]) ++ [s3]) :: Blk F (.cells #[.int .i64 (n : Nat), v] 33 (0, 0)) :: Arr (cInt .i64) 3 s3.val c3 :: Arr (cInt .i64) 3 s1.val c1 :: Arr (cInt .i64) 3 s2.val c2 :: (Inn (cInt .i64) 3 ss cls ++ l)) w) : SL.St w0 (Form F n ((cls ++ [c1, c2]) ++ [c3]) :: l) w := by
  refine St.formShut1 (ss := ss ++ [s1, s2]) (s := s3) (v := v) (by simp [hsl]) ?_
  rw [Inn.snoc2 hsl]
  refine h.perm (List.Perm.cons _ (List.Perm.cons _ (List.Perm.cons _ ?_)))
  rw [List.append_assoc]
  exact List.perm_append_comm_assoc [_, _] _ _

set_option maxRecDepth 100000 in
set_option maxHeartbeats 16000000 in
theorem laid_walk (w0 w : World) (l : List HP) (r N : Nat) (ns : Nodes) (wants : List Nat) (h : SL.St w0 (RGraph r (rnodes ns) N :: l) w) (hw : Wf ns) (hl : ns.length ≤ 1048577) (vr : Value) (roots : List Nat) (hr : Ent l (Rd (cNat .u32) vr roots)) (hx : ∀ y ∈ roots, y < 2 * ns.length)
    (vc : Value) (K : List Nat) (hk : Ent l (Rd (cNat .i64) vc K)) (hmem : ∀ m ∈ K, m < ns.length) (hnd : K.Nodup) (vw : Value) (hwt : Ent l (Rd (cNat .i64) vw wants)) (hwl : wants.length = ns.length) (hw4 : ∀ y ∈ wants, y < 4)
    (hcl : (gatesCl (varsM ns.length K) wants ns K ++ rootsCl (varsM ns.length K) roots).length ≤ 1048576) (hKl : K.length ≤ 1048576) :
    Calls Try.prog 41 #[.pointer (some ⟨r, 0, none⟩), vc, vr, vw] w fun e w' =>
      ∃ vf, e = .returned (.tuple #[.agg #[.int .i64 (K.length : Nat), vf], vc, .int .i64 0]) ∧ SL.St w0 (Arr2 (cInt .i64) 3 60 vf (gatesCl (varsM ns.length K) wants ns K ++ rootsCl (varsM ns.length K) roots) :: RGraph r (rnodes ns) N :: l) w' := by
  obtain ⟨Ac, cc, hv1, hmc, -⟩ := hk.use h.drop
  subst hv1
  obtain ⟨gw, cw, hv1⟩ : ∃ gw cw, vw = .slice (some gw) ns.length cw := by
    obtain ⟨A', c', hv1, -, hc⟩ := hwt.use h.drop
    obtain ⟨ad, hA', -⟩ := rd_at hc 0 (by rw [hwl]; have := hw.1; omega)
    exact ⟨ad, c', by rw [hv1, hA', hwl]⟩
  subst hv1
  obtain ⟨Ar, cr, hv1, hmr, -⟩ := hr.use h.drop
  subst hv1
  unfold maxLen at hmc hmr
  have h1 := (h.alloc (.cells #[.int .i64 0, .slice none 0 0] 33)).swap
  have hvw := rvars_walk w0 _ _ r N ns h1 (by omega) _ K (Ent.tail hk) hmem
  have HNZ := Lib.hid hw.1
  generalize hCE : gatesCl (varsM ns.length K) wants ns K ++ rootsCl (varsM ns.length K) roots = CE at *
  have HCE := Lib.hid hCE; clear hCE
  have HX := Lib.hid hx; have HM := Lib.hid hmem; have HWL := Lib.hid hwl; have HW4 := Lib.hid hw4; have HCL := Lib.hid hcl; have HND := Lib.hid hnd
  clear h h1 hx hmem hwl hw4 hcl hnd
  go_enter Try.func41, Try.ntmps41
  go_wp2_with (go_at_call 65; refine hvw.mono ?_; rintro e w1 ⟨vv, rfl, h2⟩; obtain ⟨gv, cv, hv⟩ := h2.arr_form (by rw [varsM_length]; have := HNZ.out; omega); rw [varsM_length] at hv; subst hv)
  have h3 := (h2.alloc (.cells #[.int .i64 K.length, .slice none 0 0] 33))
  have h5 := St.mkForm (SL.St.swap (SL.St.nil2 h3 (cInt .i64) 3 60))
  clear h2 h3 hvw
  generalize w1.heap.size = F at *
  generalize w.heap.size = R at *
  have HVS := Lib.hid (varsM_length ns.length K)
  have hvb : ∀ i, (varsM ns.length K).getD i 0 ≤ 1048576 := fun i => Nat.le_trans (varsM_getD_le ns.length K i) hKl
  have HVA := Lib.hid (fun j (hj : j < K.length) => varsM_at HND.out HM.out hj)
  generalize hvs : varsM ns.length K = vs at *
  have HVE := Lib.hid hvs; clear hvs
  have HVB := Lib.hid hvb; clear hvb
  generalize World.alloc w1 _ = w2 at h5 ⊢
  go_loopg [13] K.length (fun k i wr => ∃ j : Nat, j ≤ K.length ∧ k = K.length - j ∧ i = .int .i64 j ∧ SL.St w0 (Form F K.length (gatesCl vs wants ns (K.take j)) :: Arr (cNat .i64) 3 (.slice (some ⟨gv, 0, none⟩) ns.length cv) vs :: RGraph r (rnodes ns) N :: Blk R (.cells #[.int .i64 0, .slice none 0 0] 33 (0, 0)) :: l) wr)
  case atStart => exact ⟨0, Nat.zero_le _, rfl, rfl, h5⟩
  case round =>
    clear h5
    obtain ⟨j, hj, hgk, rfl, hsr⟩ := hrel
    subst hgk
    by_cases hlt : j < K.length
    · obtain ⟨A', c', hv, -, hc⟩ := hk.use (hsr.sel [] 4)
      obtain ⟨ad, hA', hcell⟩ := rd_at hc j hlt
      obtain rfl : Ac = some ad := by
        have : A' = Ac := by injection hv with h1; exact h1.symm
        rw [← this]; exact hA'
      have hmj := HM.out _ (List.getElem_mem hlt)
      have hvn := HVA.out j hlt
      have HT := Lib.hid (show gatesCl vs wants ns (K.take (j + 1)) = gatesCl vs wants ns (K.take j) ++ gateCl vs wants ns K[j] by rw [List.take_succ_eq_append_getElem hlt, gatesCl_snoc])
      have hcb := gatesCl_length vs wants ns (K.take j)
      rw [List.length_take, Nat.min_eq_left hj] at hcb
      clear hc hv hA'
      generalize gatesCl vs wants ns (K.take j) = cls at *
      generalize hKn : K[j] = n at *
      have HKN := Lib.hid hKn; clear hKn
      obtain ⟨gL, cg, g0, -, gr⟩ := rg_read (hsr.pull 2) (by have := HNZ.out; omega)
      obtain ⟨n0, n1, n2⟩ := gr n hmj
      clear gr
      have q0 := Ext.rule g0
      have q1 := Ext.rule n0
      have q2 := Ext.rule n1
      have q3 := Ext.rule n2
      have q4 := Ext.rule hcell
      by_cases hg : isGate ns n = true
      · have hng : nodeM ns n = (2, (nd0 ns n).1, (nd0 ns n).2) := nodeM_gate hg
        have ho := hw.2 n hmj hg
        have hA : (nd0 ns n).1 / 2 < ns.length := by have := ho.1; unfold opA at this; unfold nd0; omega
        have hB : (nd0 ns n).2 / 2 < ns.length := by have := ho.2; unfold opB at this; unfold nd0; omega
        have hgc := gateCl_gate (vs := vs) (wants := wants) hng
        rw [hng] at n0 n1 n2 q1 q2 q3
        clear hng hg ho
        generalize (nd0 ns n).1 = A at *
        generalize (nd0 ns n).2 = B at *
        simp only at n0 n1 n2 q1 q2 q3
        have h3 : SL.St w0 (Form F K.length cls :: Arr (cNat .i64) 3 (.slice (some ⟨gv, 0, none⟩) ns.length cv) vs :: RGraph r (rnodes ns) N :: Blk R (.cells #[.int .i64 0, .slice none 0 0] 33 (0, 0)) :: Blk wr.heap.size (.cells #[.int .i64 (2 : Nat), .int .u32 (A : Nat), .int .u32 (B : Nat)] 111 (0, 0)) :: l) (wr.alloc (.cells #[.int .i64 (2 : Nat), .int .u32 (A : Nat), .int .u32 (B : Nat)] 111)).drew := (SL.St.drew (hsr.alloc _)).sel [1, 2, 3, 4, 0]
        go_wp2_with fail
        -- region 8 of cadence/cadenceref12.laid: 0:move 1:nilCheck 2:fieldAddr 3:load 4:move 5:move 6:indexAddr 7:load 8:indexAddr 9:load 10:alloc 11:store
        refine wp_region_plan (Ext wr) [(0, 0), (1, 0), (2, 0), (3, 1), (4, 1), (5, 1), (6, 1), (7, 1), (8, 0), (9, 1), (10, 2)] 11 (by kernel_rfl) (by kernel_rfl) ?_
        have hx0 : Ext wr wr.drew := Ext.refl wr
        iterate 3 (first | (refine plan_skip rfl rfl ?_; simp only [Act.put, List.setIfInBounds_toArray, List.set_cons_zero, List.set_cons_succ]) | (refine plan_pure (v := ?_) rfl rfl (fun _ => ?_) ?_; rotate_left; (focus (go_simp; try with_reducible rfl; done)); simp only [Act.put, List.setIfInBounds_toArray, List.set_cons_zero, List.set_cons_succ]))
        iterate 5 (first | (refine plan_held_skip rfl rfl (by assumption) ?_; simp only [Act.put, List.setIfInBounds_toArray, List.set_cons_zero, List.set_cons_succ]) | (refine plan_held (v := ?_) rfl rfl (fun _ hSw => ?_) (by assumption) ?_; rotate_left; (focus (go_simp; try with_reducible rfl; done)); simp only [Act.put, List.setIfInBounds_toArray, List.set_cons_zero, List.set_cons_succ]))
        iterate 1 (first | (refine plan_skip rfl rfl ?_; simp only [Act.put, List.setIfInBounds_toArray, List.set_cons_zero, List.set_cons_succ]) | (refine plan_pure (v := ?_) rfl rfl (fun _ => ?_) ?_; rotate_left; (focus (go_simp; try with_reducible rfl; done)); simp only [Act.put, List.setIfInBounds_toArray, List.set_cons_zero, List.set_cons_succ]))
        iterate 1 (first | (refine plan_held_skip rfl rfl (by assumption) ?_; simp only [Act.put, List.setIfInBounds_toArray, List.set_cons_zero, List.set_cons_succ]) | (refine plan_held (v := ?_) rfl rfl (fun _ hSw => ?_) (by assumption) ?_; rotate_left; (focus (go_simp; try with_reducible rfl; done)); simp only [Act.put, List.setIfInBounds_toArray, List.set_cons_zero, List.set_cons_succ]))
        ((refine plan_eff rfl (fun K hK => ?_)); go_simp; (refine hK _ _ ⟨by repeat (first | exact Ext.refl _ | apply Ext.drew | apply Ext.alloc), ?_⟩); clear hK K)
        -- (Ext behind op 10)
        refine plan_end ?_
        simp only [List.drop]
        clear q0 q1 q2 q3 q4 hx0 g0 n0 n1 n2 hcell
        go_wp2_with (refine NoPanic.normal ?_)
        generalize wr.heap.size = kk at h3 ⊢
        generalize World.drew _ = w3 at h3 ⊢
        clear hsr
        have k0 : w3.cell? ⟨kk, 0, none⟩ = some (.int .i64 (2 : Nat)) := (h3.pull 4).cell 0
        have k1 : w3.cell? ⟨kk, 1, none⟩ = some (.int .u32 (A : Nat)) := (h3.pull 4).cell 1
        have k2 : w3.cell? ⟨kk, 2, none⟩ = some (.int .u32 (B : Nat)) := (h3.pull 4).cell 2
        have mm : ∀ x : Nat, x / 2 < ns.length → x < 4294967296 → Calls Try.prog 66 #[.slice (some ⟨gv, 0, none⟩) ns.length cv, .int .u32 (x : Nat)] w3 fun e w' => w3 = w' ∧ e = .returned (.int .i64 (litT vs x)) := fun x hx1 hx2 =>
          rlit12_walk w3 _ vs (h3.pull 1).rd x (by rw [HVS.out]; exact hx1) hx2 (fun i => by have := HVB.out i; omega)
        have hlA := litT_le HVB.out A
        have hlB := litT_le HVB.out B
        have ma := mm A hA (by omega)
        have mb := mm B hB (by omega)
        clear mm
        generalize litT vs A = la at *
        generalize litT vs B = lb at *
        have hlA1 := hlA.1; have hlA2 := hlA.2; have hlB1 := hlB.1; have hlB2 := hlB.2
        clear hlA hlB
        obtain ⟨A', c', hv, -, hc⟩ := hk.use (h3.sel [] 5)
        obtain ⟨ad', hA', hcell⟩ := rd_at hc j hlt
        rw [HKN.out] at hcell
        obtain rfl : ad = ad' := by
          have h1 : A' = some ad := by injection hv with h1; exact h1.symm
          rw [hA'] at h1; injection h1 with h2; exact h2.symm
        clear hc hv hA'
        obtain ⟨A', c', hv, -, hc⟩ := hwt.use (h3.sel [] 5)
        obtain ⟨ad', hA', hcw⟩ := rd_at hc n (by rw [HWL.out]; exact hmj)
        obtain rfl : gw = ad' := by
          have h1 : A' = some gw := by injection hv with h1; exact h1.symm
          rw [hA'] at h1; injection h1 with h2; exact h2.symm
        have hgw : wants[n]'(by rw [HWL.out]; exact hmj) = wants.getD n 0 := by rw [List.getD_eq_getElem?_getD, List.getElem?_eq_getElem (by rw [HWL.out]; exact hmj)]; rfl
        rw [hgw] at hcw
        have hwb := getD_lt4 HW4.out n
        have d1 := ibit1 (wants.getD n 0) hwb
        have d1' := ibit1' (wants.getD n 0) hwb
        have d2 := ibit2 (wants.getD n 0) hwb
        rw [hvn] at hgc
        clear hc hv hA' hvn
        generalize wants.getD n 0 = b at *
        have h3' : SL.St w0 (Form F K.length cls :: Arr (cNat .i64) 3 (.slice (some ⟨gv, 0, none⟩) ns.length cv) vs :: RGraph r (rnodes ns) N :: Blk R (.cells #[.int .i64 0, .slice none 0 0] 33 (0, 0)) :: l) w3 := h3.sel [0, 1, 2, 3] 1
        obtain ⟨ss, Af, cf, hsl, h4⟩ := St.formOpen h3'
        have f1 : w3.cell? ⟨F, 1, none⟩ = some (.slice Af cls.length cf) := (h4.pull 1).cell 1
        have HSL := Lib.hid hsl; clear hsl
        have hsb : ss.length ≤ 1073741824 := by rw [HSL.out]; omega
        have KEY : ∀ w9 : World, SL.St w0 l w9 → w9.cell? (ad.add j) = some (.int .i64 (n : Nat)) ∧ w9.cell? (gw.add n) = some (.int .i64 (b : Nat)) := by
          intro w9 h9
          constructor
          · obtain ⟨A', c', hv, -, hc⟩ := hk.use h9
            obtain ⟨ad', hA', hcell⟩ := rd_at hc j hlt
            rw [HKN.out] at hcell
            have h1 : A' = some ad := by injection hv with h1; exact h1.symm
            rw [hA'] at h1; injection h1 with h2; rw [← h2]; exact hcell
          · obtain ⟨A', c', hv, -, hc⟩ := hwt.use h9
            obtain ⟨ad', hA', hcw⟩ := rd_at hc n (by rw [HWL.out]; exact hmj)
            rw [hgw] at hcw
            have h1 : A' = some gw := by injection hv with h1; exact h1.symm
            rw [hA'] at h1; injection h1 with h2; rw [← h2]; exact hcw
        have KEY := Lib.hid KEY; clear hgw
        have e1 : (⟨F, 1, none⟩ : Addr) ≠ ad.add j := fun e => by rw [e, hcell] at f1; cases f1
        have e2 : (⟨F, 1, none⟩ : Addr) ≠ gw.add n := fun e => by rw [e, hcw] at f1; cases f1
        have hcj : ((j + 1 : Nat) : Int) = (j : Int) + 1 := by omega
        rw [hcj] at hgc; clear hcj
        by_cases b1 : b &&& 1 ≠ 0
        · rw [decide_eq_true b1] at d1 d1'
          rw [if_pos b1] at hgc
          clear b1
          have h5 := ((h4.alloc (.cells #[.int .i64 (-((j : Int) + 1)), .int .i64 la] 3)).alloc (.cells #[.int .i64 (-((j : Int) + 1)), .int .i64 lb] 3)).alloc (.cells #[.slice (some ⟨w3.heap.size, 0, none⟩) 2 2, .slice (some ⟨w3.heap.size + 1, 0, none⟩) 2 2] 60)
          simp only [World.size_alloc] at h5
          by_cases b2 : b &&& 2 ≠ 0
          · rw [decide_eq_true b2] at d2
            rw [if_pos b2] at hgc
            have HG := Lib.hid hgc; clear hgc b2
            refine ma.mono ?_
            rintro e w' ⟨rfl, rfl⟩
            go_wp2_with (first | (go_at_call 66; refine mb.mono ?_; rintro e w' ⟨rfl, rfl⟩) | (at_builtin; go_loud (have h8 := (((((h7.pull 4).set 1 (.slice An' (ss ++ ([(some (⟨w3.heap.size, 0, none⟩ : Addr), 2, 2), (some (⟨w3.heap.size + 1, 0, none⟩ : Addr), 2, 2)] : List Slc)).length cn')).pull 4).arr_lit (d := cInt .i64) (n := 2) (xs := [-((j : Int) + 1), la]) rfl rfl (by decide)).pull 4).arr_lit (d := cInt .i64) (n := 2) (xs := [-((j : Int) + 1), lb]) rfl rfl (by decide) |>.sel [3, 2, 1, 0] 1); go_loud (simp only [List.length_append, List.length_cons, List.length_nil, Nat.zero_add, Nat.reduceAdd] at h8); go_loud (have hsz : (w7.setCell ⟨F, 1, none⟩ (.slice An' (ss.length + 2) cn')).heap.size = w7.heap.size := (by simp [World.setCell])); go_loud (have h10 := (h8.alloc (.cells #[.int .i64 ((j : Int) + 1), .int .i64 (-la), .int .i64 (-lb)] 3)).alloc (.cells #[.slice (some ⟨w7.heap.size, 0, none⟩) 3 3] 60)); go_loud (simp only [World.size_alloc, hsz] at h10); go_loud (refine wpList_app rfl _ _ rfl Try.underlying31 infoClause rfl (h10.pull 2) rfl (ys := ([(some (⟨w7.heap.size, 0, none⟩ : Addr), 3, 3)] : List Slc)) rfl (h10.rd_blk (d := cSlc) (ys := ([(some (⟨w7.heap.size, 0, none⟩ : Addr), 3, 3)] : List Slc)) 1 1 rfl rfl (by decide)) (by simp; omega) (by simp; omega) ?_); go_loud (intro vo2 w11 h11); go_loud (obtain ⟨An2, cn2, rfl, _, _⟩ := h11.rd); go_loud (have g1'' := (h11.pull 3).cell 1); go_loud (have f0'' := (h11.pull 3).free 1)) | (at_builtin; go_loud (refine wpList_app rfl _ _ rfl Try.underlying31 infoClause rfl (h5.pull 3) rfl (ys := ([(some (⟨w3.heap.size, 0, none⟩ : Addr), 2, 2), (some (⟨w3.heap.size + 1, 0, none⟩ : Addr), 2, 2)] : List Slc)) rfl (h5.rd_blk (d := cSlc) (ys := ([(some (⟨w3.heap.size, 0, none⟩ : Addr), 2, 2), (some (⟨w3.heap.size + 1, 0, none⟩ : Addr), 2, 2)] : List Slc)) 2 2 rfl rfl (by decide)) (by simp; omega) (by simp; omega) ?_); go_loud (intro vo' w7 h7); go_loud (obtain ⟨An', cn', rfl, _, _⟩ := h7.rd); go_loud (have g1' : w7.cell? ⟨F, 1, none⟩ = some (.slice Af cls.length cf) := (h7.pull 4).cell 1); go_loud (have f0' := (h7.pull 4).free 1); go_loud (obtain ⟨q1, q2⟩ := KEY.out w7 ((h7.sel [] 5).dropL.sel [] 3))))
            have h12 := (((h11.pull 3).set 1 (.slice An2 ((ss ++ ([(some (⟨w3.heap.size, 0, none⟩ : Addr), 2, 2), (some (⟨w3.heap.size + 1, 0, none⟩ : Addr), 2, 2)] : List Slc)) ++ ([(some (⟨w7.heap.size, 0, none⟩ : Addr), 3, 3)] : List Slc)).length cn2)).pull 3).arr_lit (d := cInt .i64) (n := 3) (xs := [(j : Int) + 1, -la, -lb]) rfl rfl (by decide) |>.sel [2, 1, 0] 1
            simp only [List.length_append, List.length_cons, List.length_nil, Nat.zero_add, Nat.reduceAdd] at h12
            have h9 := St.formShut3 HSL.out h12
            generalize World.setCell w11 _ _ = w8 at h9 ⊢
            go_roundg (K.length - (j + 1))
            case measure => omega
            case rel => exact ⟨j + 1, by omega, rfl, by go_num, by rw [HT.out, HG.out, ← List.append_assoc]; exact h9⟩
          · rw [decide_eq_false b2] at d2
            rw [if_neg b2] at hgc
            have HG := Lib.hid hgc; clear hgc b2
            refine ma.mono ?_
            rintro e w' ⟨rfl, rfl⟩
            go_wp2_with (first | (go_at_call 66; refine mb.mono ?_; rintro e w' ⟨rfl, rfl⟩) | (at_builtin; go_loud (refine wpList_app rfl _ _ rfl Try.underlying31 infoClause rfl (h5.pull 3) rfl (ys := ([(some (⟨w3.heap.size, 0, none⟩ : Addr), 2, 2), (some (⟨w3.heap.size + 1, 0, none⟩ : Addr), 2, 2)] : List Slc)) rfl (h5.rd_blk (d := cSlc) (ys := ([(some (⟨w3.heap.size, 0, none⟩ : Addr), 2, 2), (some (⟨w3.heap.size + 1, 0, none⟩ : Addr), 2, 2)] : List Slc)) 2 2 rfl rfl (by decide)) (by simp; omega) (by simp; omega) ?_); go_loud (intro vo' w7 h7); go_loud (obtain ⟨An', cn', rfl, _, _⟩ := h7.rd); go_loud (have g1' : w7.cell? ⟨F, 1, none⟩ = some (.slice Af cls.length cf) := (h7.pull 4).cell 1); go_loud (have f0' := (h7.pull 4).free 1); go_loud (obtain ⟨q1, q2⟩ := KEY.out w7 ((h7.sel [] 5).dropL.sel [] 3))))
            have h8 := (((((h7.pull 4).set 1 (.slice An' (ss ++ ([(some (⟨w3.heap.size, 0, none⟩ : Addr), 2, 2), (some (⟨w3.heap.size + 1, 0, none⟩ : Addr), 2, 2)] : List Slc)).length cn')).pull 4).arr_lit (d := cInt .i64) (n := 2) (xs := [-((j : Int) + 1), la]) rfl rfl (by decide)).pull 4).arr_lit (d := cInt .i64) (n := 2) (xs := [-((j : Int) + 1), lb]) rfl rfl (by decide) |>.sel [3, 2, 1, 0] 1
            simp only [List.length_append, List.length_cons, List.length_nil, Nat.zero_add, Nat.reduceAdd] at h8
            have h9 := St.formShut2 HSL.out h8
            generalize w7.setCell _ _ = w8 at h9 ⊢
            go_roundg (K.length - (j + 1))
            case measure => omega
            case rel => exact ⟨j + 1, by omega, rfl, by go_num, by rw [HT.out, HG.out, List.append_nil]; exact h9⟩
        · rw [decide_eq_false b1] at d1 d1'
          rw [if_neg b1] at hgc
          clear b1
          by_cases b2 : b &&& 2 ≠ 0
          · rw [decide_eq_true b2] at d2
            rw [if_pos b2] at hgc
            have HG := Lib.hid hgc; clear hgc b2
            have h5 := (h4.alloc (.cells #[.int .i64 ((j : Int) + 1), .int .i64 (-la), .int .i64 (-lb)] 3)).alloc (.cells #[.slice (some ⟨w3.heap.size, 0, none⟩) 3 3] 60)
            simp only [World.size_alloc] at h5
            refine ma.mono ?_
            rintro e w' ⟨rfl, rfl⟩
            go_wp2_with (first | (go_at_call 66; refine mb.mono ?_; rintro e w' ⟨rfl, rfl⟩) | (at_builtin; go_loud (refine wpList_app rfl _ _ rfl Try.underlying31 infoClause rfl (h5.pull 2) rfl (ys := ([(some (⟨w3.heap.size, 0, none⟩ : Addr), 3, 3)] : List Slc)) rfl (h5.rd_blk (d := cSlc) (ys := ([(some (⟨w3.heap.size, 0, none⟩ : Addr), 3, 3)] : List Slc)) 1 1 rfl rfl (by decide)) (by simp; omega) (by simp; omega) ?_); go_loud (intro vo' w7 h7); go_loud (obtain ⟨An', cn', rfl, _, _⟩ := h7.rd); go_loud (have g1' : w7.cell? ⟨F, 1, none⟩ = some (.slice Af cls.length cf) := (h7.pull 3).cell 1); go_loud (have f0' := (h7.pull 3).free 1)))
            have h8 := (((h7.pull 3).set 1 (.slice An' (ss ++ ([(some (⟨w3.heap.size, 0, none⟩ : Addr), 3, 3)] : List Slc)).length cn')).pull 3).arr_lit (d := cInt .i64) (n := 3) (xs := [(j : Int) + 1, -la, -lb]) rfl rfl (by decide) |>.sel [2, 1, 0] 1
            simp only [List.length_append, List.length_singleton] at h8
            have h9 := St.formShut1 HSL.out h8
            generalize w7.setCell _ _ = w8 at h9 ⊢
            go_roundg (K.length - (j + 1))
            case measure => omega
            case rel => exact ⟨j + 1, by omega, rfl, by go_num, by rw [HT.out, HG.out, List.nil_append]; exact h9⟩
          · rw [decide_eq_false b2] at d2
            rw [if_neg b2] at hgc
            have HG := Lib.hid hgc; clear hgc b2
            refine ma.mono ?_
            rintro e w' ⟨rfl, rfl⟩
            go_wp2_with (go_at_call 66; refine mb.mono ?_; rintro e w' ⟨rfl, rfl⟩)
            go_roundg (K.length - (j + 1))
            case measure => omega
            case rel => exact ⟨j + 1, by omega, rfl, by go_num, by rw [HT.out, HG.out, List.append_nil, List.append_nil]; exact h3'⟩
      · have hk := nodeM_not (ns := ns) (n := n) (by simpa using hg)
        have hk2 : (((nodeM ns n).1 : Int) != 2) = true := by simp; omega
        have HG := Lib.hid (gateCl_no (vs := vs) (wants := wants) hk)
        clear hk hg
        generalize nodeM ns n = M at *
        obtain ⟨M1, A, B⟩ := M
        simp only at hk2 n0 n1 n2 q1 q2 q3
        have h3 : SL.St w0 (Form F K.length cls :: Arr (cNat .i64) 3 (.slice (some ⟨gv, 0, none⟩) ns.length cv) vs :: RGraph r (rnodes ns) N :: Blk R (.cells #[.int .i64 0, .slice none 0 0] 33 (0, 0)) :: Blk wr.heap.size (.cells #[.int .i64 (M1 : Nat), .int .u32 (A : Nat), .int .u32 (B : Nat)] 111 (0, 0)) :: l) (wr.alloc (.cells #[.int .i64 (M1 : Nat), .int .u32 (A : Nat), .int .u32 (B : Nat)] 111)).drew := (SL.St.drew (hsr.alloc _)).sel [1, 2, 3, 4, 0]
        go_wp2_with fail
        -- region 8 of cadence/cadenceref12.laid: 0:move 1:nilCheck 2:fieldAddr 3:load 4:move 5:move 6:indexAddr 7:load 8:indexAddr 9:load 10:alloc 11:store
        refine wp_region_plan (Ext wr) [(0, 0), (1, 0), (2, 0), (3, 1), (4, 1), (5, 1), (6, 1), (7, 1), (8, 0), (9, 1), (10, 2)] 11 (by kernel_rfl) (by kernel_rfl) ?_
        have hx0 : Ext wr wr.drew := Ext.refl wr
        iterate 3 (first | (refine plan_skip rfl rfl ?_; simp only [Act.put, List.setIfInBounds_toArray, List.set_cons_zero, List.set_cons_succ]) | (refine plan_pure (v := ?_) rfl rfl (fun _ => ?_) ?_; rotate_left; (focus (go_simp; try with_reducible rfl; done)); simp only [Act.put, List.setIfInBounds_toArray, List.set_cons_zero, List.set_cons_succ]))
        iterate 5 (first | (refine plan_held_skip rfl rfl (by assumption) ?_; simp only [Act.put, List.setIfInBounds_toArray, List.set_cons_zero, List.set_cons_succ]) | (refine plan_held (v := ?_) rfl rfl (fun _ hSw => ?_) (by assumption) ?_; rotate_left; (focus (go_simp; try with_reducible rfl; done)); simp only [Act.put, List.setIfInBounds_toArray, List.set_cons_zero, List.set_cons_succ]))
        iterate 1 (first | (refine plan_skip rfl rfl ?_; simp only [Act.put, List.setIfInBounds_toArray, List.set_cons_zero, List.set_cons_succ]) | (refine plan_pure (v := ?_) rfl rfl (fun _ => ?_) ?_; rotate_left; (focus (go_simp; try with_reducible rfl; done)); simp only [Act.put, List.setIfInBounds_toArray, List.set_cons_zero, List.set_cons_succ]))
        iterate 1 (first | (refine plan_held_skip rfl rfl (by assumption) ?_; simp only [Act.put, List.setIfInBounds_toArray, List.set_cons_zero, List.set_cons_succ]) | (refine plan_held (v := ?_) rfl rfl (fun _ hSw => ?_) (by assumption) ?_; rotate_left; (focus (go_simp; try with_reducible rfl; done)); simp only [Act.put, List.setIfInBounds_toArray, List.set_cons_zero, List.set_cons_succ]))
        ((refine plan_eff rfl (fun K hK => ?_)); go_simp; (refine hK _ _ ⟨by repeat (first | exact Ext.refl _ | apply Ext.drew | apply Ext.alloc), ?_⟩); clear hK K)
        -- (Ext behind op 10)
        refine plan_end ?_
        simp only [List.drop]
        clear q0 q1 q2 q3 q4 hx0 g0 n0 n1 n2 hcell
        go_wp2_with (refine NoPanic.normal ?_)
        go_roundg (K.length - (j + 1))
        case measure => omega
        case rel => exact ⟨j + 1, by omega, rfl, by go_num, by rw [HT.out, HG.out, List.append_nil]; exact h3.sel [0, 1, 2, 3] 1⟩
    · obtain rfl : j = K.length := by omega
      rw [List.take_length] at hsr
      obtain ⟨vf, h5⟩ := St.form hsr
      obtain ⟨A2, c2, rfl, _⟩ := (h5.pull 1).rd2.at
      have f0 : wr.cell? ⟨F, 0, none⟩ = some (.int .i64 (K.length : Nat)) := h5.cell 0
      have f1 : wr.cell? ⟨F, 1, none⟩ = some (.slice A2 (gatesCl vs wants ns K).length c2) := h5.cell 1
      have hne : F ≠ R := h5.apart2 0 4 rfl claims_blk claims_blk
      have hne' : R ≠ F := Ne.symm hne
      have hcl := HCL.out
      have hd1 : decide ((1048576 : Int) < (CE.length : Int)) = false := by simp; omega
      have hd2 : decide ((CE.length : Int) > (1048576 : Int)) = false := by simp; omega
      have hcr := rooted_walk w0 wr _ K.length _ _ (h5.sel [1, 0, 2, 3, 4]) (.slice (some ⟨gv, 0, none⟩) ns.length cv) (.slice Ar roots.length cr) vs roots (Ent.tail Ent.rd) (Ent.tail (Ent.tail (Ent.tail (Ent.tail hr))))
        (fun y hy => by have h1 := HX.out y hy; have h2 := HVS.out; omega) HVB.out (by rw [HCE.out]; omega)
      rw [HCE.out] at hcr
      generalize gatesCl vs wants ns K = GC at *
      go_wp2_with (go_at_call 67; go_loud (refine hcr.mono ?_); go_loud (rintro e w5 ⟨vf', rfl, h7⟩); go_loud (obtain ⟨A3, c3, rfl, _⟩ := h7.rd2.at); go_loud (have b0 : w5.cell? ⟨F, 0, none⟩ = some (.int .i64 (K.length : Nat)) := (h7.pull 1).cell 0); go_loud (have b1 : w5.cell? ⟨F, 1, none⟩ = some (.slice A2 GC.length c2) := (h7.pull 1).cell 1); go_loud (have b2 := (h7.pull 1).free 0); go_loud (have b3 := (h7.pull 1).free 1); go_loud (have b4 : w5.cell? ⟨R, 0, none⟩ = some (.int .i64 0) := (h7.pull 4).cell 0); go_loud (have b5 : w5.cell? ⟨R, 1, none⟩ = some (.slice none 0 0) := (h7.pull 4).cell 1); go_loud (have b6 := (h7.pull 4).free 0); go_loud (have b7 := (h7.pull 4).free 1))
      have h8 := (((((h7.pull 1).set 0 (.int .i64 (K.length : Nat))).set 1 (.slice A3 CE.length c3)).pull 4).set 0 (.int .i64 (K.length : Nat))).set 1 (.slice A3 CE.length c3)
      generalize World.setCell _ _ _ = wz at h8 ⊢
      have b0 := h8.cell 0
      have b1 := h8.cell 1
      refine bodyPost_ret (v := .tuple #[.agg #[.int .i64 K.length, .slice A3 CE.length c3], .slice Ac K.length cc, .int .i64 0]) (by simp [results, Try.results41, go_sem, b0, b1]) rfl ⟨_, rfl, ?_⟩
      exact h8.sel [2, 4] 3
end Go.Proofs.Ytjeopmiopinlgaa
