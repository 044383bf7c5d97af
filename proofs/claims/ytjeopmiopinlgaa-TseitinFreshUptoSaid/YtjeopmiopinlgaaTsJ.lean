/- Tseitin's encode. -/
import Derived.Test.YtjeopmiopinlgaaTsI
set_option linter.unusedVariables false
set_option linter.unusedSimpArgs false
namespace Go.Proofs.Ytjeopmiopinlgaa
open Go Go.RowKit SL

theorem clause0_walk (w0 w : World) (l : List HP) (F n : Nat) (cls : List (List Int)) (h : SL.St w0 (Form F n cls :: l) w) (hl : cls.length ≤ 1073741824) :
    Calls Try.prog 63 #[.slice none 0 0, .pointer (some ⟨F, 0, none⟩)] w fun e w' => e = .returned (.tuple #[]) ∧ SL.St w0 (Form F n (cls ++ [[]]) :: l) w' :=
  clause_walk w0 w l F n cls _ [] (h.rows_nil (cInt .i64) 3) hl
theorem clause1_walk (w0 w : World) (l : List HP) (F n : Nat) (cls : List (List Int)) (x : Int) (h : SL.St w0 (Form F n cls :: l) w) (hl : cls.length ≤ 1073741824) :
    Calls Try.prog 63 #[.slice (some ⟨w.heap.size, 0, none⟩) 1 1, .pointer (some ⟨F, 0, none⟩)] (w.alloc (.cells #[.int .i64 x] 3)) fun e w' => e = .returned (.tuple #[]) ∧ SL.St w0 (Form F n (cls ++ [[x]]) :: l) w' :=
  clause_walk w0 _ l F n cls _ [x] ((h.alloc _).arr_lit (d := cInt .i64) (n := 1) (xs := [x]) rfl rfl (by decide)) hl
theorem clause2_walk (w0 w : World) (l : List HP) (F n : Nat) (cls : List (List Int)) (x y : Int) (h : SL.St w0 (Form F n cls :: l) w) (hl : cls.length ≤ 1073741824) :
    Calls Try.prog 63 #[.slice (some ⟨w.heap.size, 0, none⟩) 2 2, .pointer (some ⟨F, 0, none⟩)] (w.alloc (.cells #[.int .i64 x, .int .i64 y] 3)) fun e w' => e = .returned (.tuple #[]) ∧ SL.St w0 (Form F n (cls ++ [[x, y]]) :: l) w' :=
  clause_walk w0 _ l F n cls _ [x, y] ((h.alloc _).arr_lit (d := cInt .i64) (n := 2) (xs := [x, y]) rfl rfl (by decide)) hl
theorem clause3_walk (w0 w : World) (l : List HP) (F n : Nat) (cls : List (List Int)) (x y z : Int) (h : SL.St w0 (Form F n cls :: l) w) (hl : cls.length ≤ 1073741824) :
    Calls Try.prog 63 #[.slice (some ⟨w.heap.size, 0, none⟩) 3 3, .pointer (some ⟨F, 0, none⟩)] (w.alloc (.cells #[.int .i64 x, .int .i64 y, .int .i64 z] 3)) fun e w' => e = .returned (.tuple #[]) ∧ SL.St w0 (Form F n (cls ++ [[x, y, z]]) :: l) w' :=
  clause_walk w0 _ l F n cls _ [x, y, z] ((h.alloc _).arr_lit (d := cInt .i64) (n := 3) (xs := [x, y, z]) rfl rfl (by decide)) hl
theorem gateCl_gate {vs wants : List Nat} {ns : Nodes} {n A B : Nat} (h : nodeM ns n = (2, A, B)) : gateCl vs wants ns n =
    (if wants.getD n 0 &&& 1 ≠ 0 then [[-((vs.getD n 0 : Nat) : Int), litT vs A], [-((vs.getD n 0 : Nat) : Int), litT vs B]] else []) ++
    (if wants.getD n 0 &&& 2 ≠ 0 then [[((vs.getD n 0 : Nat) : Int), -litT vs A, -litT vs B]] else []) := by
  unfold gateCl; rw [h]; rfl
theorem gateCl_no {vs wants : List Nat} {ns : Nodes} {n : Nat} (h : (nodeM ns n).1 ≠ 2) : gateCl vs wants ns n = [] := by
  unfold gateCl; rw [if_neg h]
theorem rootsCl_take_le (vs : List Nat) (l : List Nat) (j : Nat) : (rootsCl vs (l.take j)).length ≤ (rootsCl vs l).length := by
  conv => rhs; rw [← List.take_append_drop j l]
  unfold rootsCl
  rw [List.flatMap_append, List.length_append]
  omega
theorem Rd.drewN' {α : Type} {d : Cd α} {v : Value} {xs : List α} {w : World} (h : Rd d v xs w) (n : Nat) : Rd d v xs (w.drewN n) := h.mono fun _ _ h => h

set_option maxRecDepth 100000 in
set_option maxHeartbeats 8000000 in
theorem encode_walk (w0 w : World) (l : List HP) (g : Nat) (ns : Nodes) (N : Nat) (caps : Array Value) (wants : List Nat) (h : SL.St w0 (Graph g ns :: l) w) (hw : Wf ns) (hl : ns.length ≤ 1048577) (v : Value) (roots : List Nat) (hr : Ent l (Rd (cNat .u32) v roots)) (hx : ∀ y ∈ roots, y < 2 * ns.length)
    (hN : ∀ (v : Value) (w : World), (callFunc N (#[v] ++ caps)).run Try.prog w = .ok (.enter N (#[v] ++ caps)) w)
    (hwant : ∀ (l1 : List HP) (w1 : World) (vc : Value), SL.St w0 (Arr (cNat .i64) 3 vc (coneM ns roots) :: Graph g ns :: (l1 ++ l)) w1 → Calls Try.prog N (#[vc] ++ caps) w1 fun e w' => ∃ vw, e = .returned vw ∧ SL.St w0 (Arr (cNat .u8) 5 vw wants :: Arr (cNat .i64) 3 vc (coneM ns roots) :: Graph g ns :: (l1 ++ l)) w')
    (hwl : wants.length = ns.length) (hw4 : ∀ y ∈ wants, y < 4) (hcl : (clausesM ns wants roots).length ≤ 1048576) (hKl : (coneM ns roots).length ≤ 1048576) :
    Calls Try.prog 39 #[.pointer (some ⟨g, 0, none⟩), v, .func (.func N) #[] caps] w fun e w' =>
      ∃ vf vc, e = .returned (.tuple #[.agg #[.int .i64 (coneM ns roots).length, vf], vc, .int .i64 0]) ∧ SL.St w0 (Arr2 (cInt .i64) 3 60 vf (clausesM ns wants roots) :: Arr (cNat .i64) 3 vc (coneM ns roots) :: Graph g ns :: l) w' := by
  have hmf : ∀ (fn : Fn) (first cap : Array Value) (w : World), (Instr.makeFunc fn first cap).run Try.prog w = .ok (.func fn first cap) w := fun _ _ _ _ => rfl
  have hmem := (coneM_lined hw roots hx).1.mem
  have h1 := (h.alloc (.cells #[.int .i64 0, .slice none 0 0] 33)).swap
  have hd : decide ((1048576 : Int) < ((coneM ns roots).length : Int)) = false := by simp; omega
  have hcw := tcone_walk w0 _ _ g ns h1 hw (by omega) v roots (Ent.tail hr) hx
  unfold clausesM at *
  generalize coneM ns roots = K at *
  clear h h1
  generalize hCE : gatesCl (varsM ns.length K) wants ns K ++ rootsCl (varsM ns.length K) roots = CE at *
  have HCE := Lib.hid hCE; clear hCE
  have HX := Lib.hid hx; have HM := Lib.hid hmem; have HWL := Lib.hid hwl; have HW4 := Lib.hid hw4; have HCL := Lib.hid hcl
  clear hx hmem hwl hw4 hcl
  go_enter Try.func39, Try.ntmps39
  go_wp2_with (go_at_call 47; refine hcw.mono ?_; rintro e w1 ⟨vc, vv, rfl, h2⟩; obtain ⟨Ac, cc, rfl, hmc, -⟩ := h2.rd; obtain ⟨gv, cv, hv⟩ := (h2.pull 1).arr_form (by rw [varsM_length]; have := hw.1; omega); rw [varsM_length] at hv; subst hv)
  have hmem' := HM.out
  have h3 := (h2.alloc (.cells #[.int .i64 K.length, .slice none 0 0] 33)).sel [1, 3, 0, 2]
  refine (hwant [_, _, _] _ _ h3).mono ?_
  rintro e w2 ⟨vw, rfl, h4⟩
  have h5 := St.mkForm (SL.St.swap (SL.St.nil2 (SL.St.pull h4 3) (cInt .i64) 3 60))
  have h6 := h5.sel [0, 1, 2, 3, 4, 5]
  clear h2 h3 h4 h5 hwant hmem' hcw
  generalize w1.heap.size = F at *
  generalize w.heap.size = R at *
  obtain ⟨gw, cw, hv⟩ := (h6.pull 1).arr_form (by rw [HWL.out]; have := hw.1; omega)
  rw [HWL.out] at hv
  subst hv
  have HVS := Lib.hid (varsM_length ns.length K)
  have hvb : ∀ i, (varsM ns.length K).getD i 0 ≤ 1048576 := fun i => Nat.le_trans (varsM_getD_le ns.length K i) hKl
  generalize hvs : varsM ns.length K = vs at *
  have HVE := Lib.hid hvs; clear hvs
  have HVB := Lib.hid hvb; clear hvb
  go_wp2_with fail
  go_loopg [51] K.length (fun k i wr => ∃ j : Nat, j ≤ K.length ∧ k = K.length - j ∧ i = .int .i64 j ∧ SL.St w0 (Form F K.length (gatesCl vs wants ns (K.take j)) :: Arr (cNat .u8) 5 (.slice (some ⟨gw, 0, none⟩) ns.length cw) wants :: Arr (cNat .i64) 3 (.slice Ac K.length cc) K :: Graph g ns :: Arr (cNat .i64) 3 (.slice (some ⟨gv, 0, none⟩) ns.length cv) vs :: Blk R (.cells #[.int .i64 0, .slice none 0 0] 33 (0, 0)) :: l) wr)
  case atStart => exact ⟨0, Nat.zero_le _, rfl, rfl, h6⟩
  case round =>
    clear h6
    obtain ⟨j, hj, hgk, rfl, hsr⟩ := hrel
    subst hgk
    by_cases hlt : j < K.length
    · obtain ⟨A', c', hv, -, hc⟩ := (hsr.pull 2).rd
      obtain ⟨ad, hA', hcell⟩ := rd_at hc j hlt
      obtain rfl : Ac = some ad := by
        have : A' = Ac := by injection hv with h1; exact h1.symm
        rw [← this]; exact hA'
      have hmj := (HM.out _ (List.getElem_mem hlt)).2
      have HT := Lib.hid (show gatesCl vs wants ns (K.take (j + 1)) = gatesCl vs wants ns (K.take j) ++ gateCl vs wants ns K[j] by rw [List.take_succ_eq_append_getElem hlt, gatesCl_snoc])
      have hcb := gatesCl_length vs wants ns (K.take j)
      rw [List.length_take, Nat.min_eq_left hj] at hcb
      clear hc hv hA'
      generalize gatesCl vs wants ns (K.take j) = cls at *
      generalize K[j] = n at *
      go_wp2_with fail
      refine (Node_walk w0 wr _ g ns (hsr.pull 3) n hmj (by omega)).mono ?_
      rintro e w2 ⟨rfl, h2⟩
      clear hsr
      by_cases hg : isGate ns n = true
      · have hng : nodeM ns n = (2, (nd0 ns n).1, (nd0 ns n).2) := nodeM_gate hg
        have ho := hw.2 n hmj hg
        have hA : (nd0 ns n).1 / 2 < ns.length := by have := ho.1; unfold opA at this; unfold nd0; omega
        have hB : (nd0 ns n).2 / 2 < ns.length := by have := ho.2; unfold opB at this; unfold nd0; omega
        have hgc := gateCl_gate (vs := vs) (wants := wants) hng
        rw [hng]
        clear hng hg ho
        generalize (nd0 ns n).1 = A at *
        generalize (nd0 ns n).2 = B at *
        go_wp2_with fail
        have h3 := h2.alloc (.cells #[.int .u32 (A : Nat), .int .u32 (B : Nat)] 91)
        generalize w2.heap.size = kk at h3 ⊢
        generalize World.alloc w2 _ = w3 at h3 ⊢
        clear h2
        have mm : ∀ (x q : Nat), x / 2 < ns.length → Calls Try.prog 64 #[.slice (some ⟨gv, 0, none⟩) ns.length cv, .int .u32 (x : Nat)] (w3.drewN q) fun e w' => e = .returned (.int .i64 (litT vs x)) ∧ w' = w3.drewN q := fun x q hx =>
          (tlit_walk (w3.drewN q) _ vs (Rd.drewN' (h3.pull 5).rd q) x (by rw [HVS.out]; exact hx) (by omega) (fun i => by have := HVB.out i; omega)).mono fun e w' ⟨a, b⟩ => ⟨b, a.symm⟩
        have hvl := HVS.out
        have hgv : vs[n]? = some (vs.getD n 0) := by rw [List.getD_eq_getElem?_getD, List.getElem?_eq_getElem (by omega)]; rfl
        have c1 := ((h3.pull 5).arr_cell1 rfl n _ hgv _ rfl).1
        have k0 : w3.cell? ⟨kk, 0, none⟩ = some (.int .u32 (A : Nat)) := h3.cell 0
        have k1 : w3.cell? ⟨kk, 1, none⟩ = some (.int .u32 (B : Nat)) := h3.cell 1
        have hvn := HVB.out n
        have hlA := litT_le HVB.out A
        have hlB := litT_le HVB.out B
        clear hgv hvl
        generalize vs.getD n 0 = vn at *
        have hlA1 := hlA.1; have hlA2 := hlA.2; have hlB1 := hlB.1; have hlB2 := hlB.2
        clear hlA hlB
        go_quiet ((go_at_call 64; exact Calls.quiet_of_same (mm _ _ (by assumption))))
        have h4 : SL.St w0 (Form F K.length cls :: Arr (cNat .u8) 5 (.slice (some ⟨gw, 0, none⟩) ns.length cw) wants :: Arr (cNat .i64) 3 (.slice (some ad) K.length cc) K :: Graph g ns :: Arr (cNat .i64) 3 (.slice (some ⟨gv, 0, none⟩) ns.length cv) vs :: Blk R (.cells #[.int .i64 0, .slice none 0 0] 33 (0, 0)) :: l) (w3.drewN nq) := (SL.St.drewN h3 nq).sel [2, 3, 4, 1, 5, 6] 1
        generalize World.drewN w3 _ = w4 at h4 ⊢
        clear h3 mm c1 k0 k1
        generalize litT vs A = la at *
        generalize litT vs B = lb at *
        have hwl := HWL.out
        have hgw : wants[n]? = some (wants.getD n 0) := by rw [List.getD_eq_getElem?_getD, List.getElem?_eq_getElem (by omega)]; rfl
        have c1 := ((h4.pull 1).arr_cell1 rfl n _ hgw _ rfl).1
        have hw4 := getD_lt4 HW4.out n
        have d1 := bit1 (wants.getD n 0) (by omega)
        have d2 := bit2 (wants.getD n 0) (by omega)
        clear hwl
        generalize wants.getD n 0 = b at *
        have key2 : ∀ (w5 : World) (cls' : List (List Int)), SL.St w0 (Form F K.length cls' :: Arr (cNat .u8) 5 (.slice (some ⟨gw, 0, none⟩) ns.length cw) wants :: Arr (cNat .i64) 3 (.slice (some ad) K.length cc) K :: Graph g ns :: Arr (cNat .i64) 3 (.slice (some ⟨gv, 0, none⟩) ns.length cv) vs :: Blk R (.cells #[.int .i64 0, .slice none 0 0] 33 (0, 0)) :: l) w5 → w5.cell? ⟨gw, n, none⟩ = some (.int .u8 (b : Nat)) :=
          fun w5 cls' h5 => ((h5.pull 1).arr_cell1 rfl n _ hgw _ rfl).1
        have KEY := Lib.hid key2; clear key2 hgw
        by_cases b1 : b &&& 1 ≠ 0
        · rw [decide_eq_true b1] at d1
          rw [if_pos b1] at hgc
          go_wp2_with fail
          refine (clause2_walk w0 w4 _ F K.length cls (-(vn : Int)) la h4 (by omega)).mono ?_
          rintro e w5 ⟨rfl, h5⟩
          clear h4 c1 d1 b1
          go_wp2_with fail
          refine (clause2_walk w0 w5 _ F K.length _ (-(vn : Int)) lb h5 (by simp; omega)).mono ?_
          rintro e w6 ⟨rfl, h6⟩
          clear h5
          have c1 := KEY.out _ _ h6
          by_cases b2 : b &&& 2 ≠ 0
          · rw [decide_eq_true b2] at d2
            rw [if_pos b2] at hgc
            have HG := Lib.hid hgc; clear hgc b2
            go_wp2_with fail
            refine (clause3_walk w0 w6 _ F K.length _ (vn : Int) (-la) (-lb) h6 (by simp; omega)).mono ?_
            rintro e w7 ⟨rfl, h7⟩
            go_wp2_with fail
            go_roundg (K.length - (j + 1))
            case measure => omega
            case rel => exact ⟨j + 1, by omega, rfl, by go_num, by rw [HT.out, HG.out]; simpa using h7⟩
          · rw [decide_eq_false b2] at d2
            rw [if_neg b2] at hgc
            have HG := Lib.hid hgc; clear hgc b2
            go_wp2_with fail
            go_roundg (K.length - (j + 1))
            case measure => omega
            case rel => exact ⟨j + 1, by omega, rfl, by go_num, by rw [HT.out, HG.out]; simpa using h6⟩
        · rw [decide_eq_false b1] at d1
          rw [if_neg b1] at hgc
          by_cases b2 : b &&& 2 ≠ 0
          · rw [decide_eq_true b2] at d2
            rw [if_pos b2] at hgc
            have HG := Lib.hid hgc; clear hgc b2 b1
            go_wp2_with fail
            refine (clause3_walk w0 w4 _ F K.length _ (vn : Int) (-la) (-lb) h4 (by omega)).mono ?_
            rintro e w7 ⟨rfl, h7⟩
            go_wp2_with fail
            go_roundg (K.length - (j + 1))
            case measure => omega
            case rel => exact ⟨j + 1, by omega, rfl, by go_num, by rw [HT.out, HG.out]; simpa using h7⟩
          · rw [decide_eq_false b2] at d2
            rw [if_neg b2] at hgc
            have HG := Lib.hid hgc; clear hgc b2 b1
            go_wp2_with fail
            go_roundg (K.length - (j + 1))
            case measure => omega
            case rel => exact ⟨j + 1, by omega, rfl, by go_num, by rw [HT.out, HG.out]; simpa using h4⟩
      · have hk := nodeM_not (ns := ns) (n := n) (by simpa using hg)
        have hk2 : (((nodeM ns n).1 : Int) != 2) = true := by simp; omega
        have HG := Lib.hid (gateCl_no (vs := vs) (wants := wants) hk)
        clear hk hg
        generalize nodeM ns n = M at *
        obtain ⟨M1, A, B⟩ := M
        simp only at hk2 ⊢
        have h3 := h2.alloc (.cells #[.int .u32 (A : Nat), .int .u32 (B : Nat)] 91)
        go_wp2_with fail
        go_roundg (K.length - (j + 1))
        case measure => omega
        case rel => exact ⟨j + 1, by omega, rfl, by go_num, by rw [HT.out, HG.out, List.append_nil]; exact h3.sel [2, 3, 4, 1, 5, 6] 1⟩
    · obtain rfl : j = K.length := by omega
      rw [List.take_length] at hsr
      obtain ⟨Ar, cr, hv, hmr, -⟩ := hr.use (hsr.sel [] 6)
      subst hv
      unfold maxLen at hmr
      have hcb := gatesCl_length vs wants ns K
      generalize hGC : gatesCl vs wants ns K = GC at *
      have HGC := Lib.hid hGC; clear hGC
      go_wp2_with fail
      go_loopg [111] roots.length (fun k i wr => ∃ j : Nat, j ≤ roots.length ∧ k = roots.length - j ∧ i = .int .i64 j ∧ SL.St w0 (Form F K.length (GC ++ rootsCl vs (roots.take j)) :: Arr (cNat .u8) 5 (.slice (some ⟨gw, 0, none⟩) ns.length cw) wants :: Arr (cNat .i64) 3 (.slice Ac K.length cc) K :: Graph g ns :: Arr (cNat .i64) 3 (.slice (some ⟨gv, 0, none⟩) ns.length cv) vs :: Blk R (.cells #[.int .i64 0, .slice none 0 0] 33 (0, 0)) :: l) wr)
      case atStart => exact ⟨0, Nat.zero_le _, rfl, rfl, by simpa [rootsCl] using hsr⟩
      case round =>
        clear hsr
        obtain ⟨j, hj, hgk, rfl, hsr⟩ := hrel
        subst hgk
        by_cases hlt : j < roots.length
        · obtain ⟨A', c', hv, -, hc⟩ := hr.use (hsr.sel [] 6)
          obtain ⟨ad, hA', hcell⟩ := rd_at hc j hlt
          obtain rfl : Ar = some ad := by
            have : A' = Ar := by injection hv with h1; exact h1.symm
            rw [← this]; exact hA'
          have hxj := HX.out _ (List.getElem_mem hlt)
          have HT := Lib.hid (show GC ++ rootsCl vs (roots.take (j + 1)) = GC ++ rootsCl vs (roots.take j) ++ rootCl vs roots[j] by rw [List.take_succ_eq_append_getElem hlt, rootsCl_snoc, List.append_assoc])
          have hrb := rootsCl_length vs (roots.take j)
          have hcb2 : (GC ++ rootsCl vs (roots.take j)).length ≤ 1073741824 := by
            have h1 := rootsCl_take_le vs roots j
            have := HCL.out
            rw [← HCE.out, List.length_append] at this
            rw [List.length_append]
            omega
          clear hc hv hA'
          generalize GC ++ rootsCl vs (roots.take j) = cls at *
          have hrc : rootCl vs roots[j] = if roots[j] = 0 then [[]] else if roots[j] = 1 then [] else [[litT vs roots[j]]] := rfl
          generalize roots[j] = r at *
          generalize rootCl vs r = rc at *
          by_cases r0 : r = 0
          · have e0 : ((r : Int) == 0) = true := by simp [r0]
            rw [if_pos r0] at hrc
            have HR := Lib.hid hrc; clear hrc r0
            go_wp2_with fail
            refine (clause0_walk w0 wr _ F K.length cls hsr hcb2).mono ?_
            rintro e w5 ⟨rfl, h5⟩
            go_wp2_with fail
            go_roundg (roots.length - (j + 1))
            case measure => omega
            case rel => exact ⟨j + 1, by omega, rfl, by go_num, by rw [HT.out, HR.out]; exact h5⟩
          have e0 : ((r : Int) == 0) = false := by simp [r0]
          rw [if_neg r0] at hrc
          clear r0
          by_cases r1 : r = 1
          · have e1 : ((r : Int) == 1) = true := by simp [r1]
            rw [if_pos r1] at hrc
            have HR := Lib.hid hrc; clear hrc r1
            go_wp2_with fail
            go_roundg (roots.length - (j + 1))
            case measure => omega
            case rel => exact ⟨j + 1, by omega, rfl, by go_num, by rw [HT.out, HR.out, List.append_nil]; exact hsr⟩
          have e1 : ((r : Int) == 1) = false := by simp; omega
          rw [if_neg r1] at hrc
          clear r1
          have HR := Lib.hid hrc; clear hrc
          have ml := tlit_walk wr _ vs (hsr.pull 4).rd r (by rw [HVS.out]; omega) (by omega) (fun i => by have := HVB.out i; omega)
          generalize litT vs r = lr at *
          go_wp2_with fail
          refine ml.mono ?_
          rintro e w5 ⟨rfl, rfl⟩
          go_wp2_with fail
          refine (clause1_walk w0 _ _ F K.length cls lr hsr hcb2).mono ?_
          rintro e w5 ⟨rfl, h5⟩
          go_wp2_with fail
          go_roundg (roots.length - (j + 1))
          case measure => omega
          case rel => exact ⟨j + 1, by omega, rfl, by go_num, by rw [HT.out, HR.out]; exact h5⟩
        · obtain rfl : j = roots.length := by omega
          rw [List.take_length] at hsr
          have hce := HCE.out
          rw [hce] at hsr
          clear hce
          have hcl := HCL.out
          obtain ⟨vf, h5⟩ := St.form hsr
          obtain ⟨Af, cf, rfl, _⟩ := (h5.pull 1).rd2.at
          have f0 : wr.cell? ⟨F, 0, none⟩ = some (.int .i64 (K.length : Nat)) := h5.cell 0
          have f1 : wr.cell? ⟨F, 1, none⟩ = some (.slice Af CE.length cf) := h5.cell 1
          have b0 := (h5.pull 6).cell 0
          have b1 := (h5.pull 6).cell 1
          have b2 := (h5.pull 6).free 0
          have b3 := (h5.pull 6).free 1
          simp at b0 b1
          go_wp2_with fail
          have h6 := (((h5.pull 6).set 0 (.int .i64 K.length)).set 1 (.slice Af CE.length cf))
          refine bodyPost_ret (v := .tuple #[.agg #[.int .i64 K.length, .slice Af CE.length cf], .slice Ac K.length cc, .int .i64 0]) (by simp [results, Try.results39, go_sem, b0, b1]) rfl ⟨_, _, rfl, ?_⟩
          exact h6.sel [2, 4, 5] 4
end Go.Proofs.Ytjeopmiopinlgaa
