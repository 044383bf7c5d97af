/- Print: a graph's text. -/
import Derived.Test.YtjllogellpfpkaaDoorAigH
import Derived.Test.YtjllogellpfpkaaDoorEmbB
import Derived.Test.YtjllogellpfpkaaDoorAigL1
import Derived.Test.YtjllogellpfpkaaDoorPrB
set_option linter.unusedVariables false
set_option linter.unusedSimpArgs false
namespace Go.Proofs.YtjllogellpfpkaaDoor
open Go Go.RowKit SL

theorem numGates_succ {ns : Nodes} {K : List Nat} {j : Nat} (h : j < K.length) : numGates ns (K.take (j + 1)) = numStep ns (inputsOf ns).length (numGates ns (K.take j)) K[j] := by
  rw [List.take_succ_eq_append_getElem h]; unfold numGates; rw [List.foldl_append]; rfl

set_option maxRecDepth 100000 in
set_option maxHeartbeats 8000000 in
theorem print_walk (w0 w : World) (l : List HP) (g : Nat) (ns : Nodes) (hst : SL.St w0 (Graph g ns :: l) w) (gg : GoodG ns) (hl : ns.length ≤ 500000000) (v : Value) (roots : List Nat) (hr : Ent l (Rd (cNat .u32) v roots)) (ht : Ent l Tab) (hx : ∀ y ∈ roots, y < 2 * ns.length) (hrl : roots.length ≤ 500000000) :
    Calls Tryd.prog 14 #[.pointer (some ⟨g, 0, none⟩), v] w fun e w' => e = .returned (.tuple #[.string ⟨(printM ns roots).toArray⟩, .int .i64 0]) ∧ SL.St w0 (Graph g ns :: l) w' := by
  obtain ⟨A, c, hv, hm, -⟩ := hr.use hst.drop
  subst hv
  unfold maxLen at hm
  have hpos : 0 < ns.length := by have := gg.pos; omega
  have HL := coneM_lined gg.wf roots hx
  have hKl := HL.1.length_le
  have hKm : ∀ n ∈ coneM ns roots, n < ns.length := fun n h => (HL.1.mem n h).2
  have HP := Lib.hid (show printM ns roots = textOf ns (inputsOf ns).length roots (numGates ns (coneM ns roots)).1 (numIns (inputsOf ns) (numGates ns (coneM ns roots)).2 (inputsOf ns).length) from rfl)
  generalize printM ns roots = PM at *
  have hIl := inputsOf_length ns
  have hIm : ∀ n ∈ inputsOf ns, n < ns.length := fun n h => inputs_lt h
  have hmk := run_make_row' (P := Tryd.prog) 29 32 (.int .u32 0) 4 Tryd.underlying29 infoU32 rfl .i64 .i64 ns.length (by omega) (by omega)
  go_enter Tryd.func14, Tryd.ntmps14
  go_wp2_with fail
  refine (Cone_walk w0 w l g ns hst gg.wf (by omega) _ roots hr hx).mono ?_
  rintro e w1 ⟨vK, rfl, hs1⟩
  generalize coneM ns roots = K at *
  obtain ⟨AK, cK, rfl, hmK, -⟩ := hs1.rd
  obtain ⟨vn, vi, bm, hg⟩ := St.graph hs1.swap
  obtain ⟨gn, cn, rfl⟩ := (hg.pull 1).arr_form hpos
  obtain ⟨Ai, ci, rfl, hmi, -⟩ := (hg.pull 3).rd
  have g0 : w1.cell? ⟨g, 0, none⟩ = some (.slice (some ⟨gn, 0, none⟩) ns.length cn) := hg.cell 0
  have hs2 := (hg.alloc (.cells (madeCells #[Value.int .u32 0] ns.length) 32)).alloc (.cells #[.slice (some ⟨w1.heap.size, 0, none⟩) ns.length ns.length] 29)
  simp only [World.size_alloc] at hs2
  clear hst hs1 hg
  go_wp2_with fail
  generalize w1.heap.size = kv at hs2 ⊢
  generalize ((w1.alloc _).alloc _) = w2 at hs2 ⊢
  clear g0 hmk
  have hs3 := ((hs2.pull 1).arr_made (d := cNat .u32) rfl (x := 0) rfl (by unfold maxLen; omega)).rows_nil (cNat .i64) 3
  clear hs2
  go_loopg [9, 40] K.length (fun k vg i wr => ∃ j : Nat, j ≤ K.length ∧ k = K.length - j ∧ i = .int .i64 j ∧ SL.St w0 (Arr (cNat .i64) 3 vg (numGates ns (K.take j)).1 :: Arr (cNat .u32) 32 (.slice (some ⟨kv, 0, none⟩) ns.length ns.length) (numGates ns (K.take j)).2 :: Blk (kv + 1) (.cells #[.slice (some ⟨kv, 0, none⟩) ns.length ns.length] 29 (0, 0)) ::
      Blk g (.cells #[.slice (some ⟨gn, 0, none⟩) ns.length cn, .map (some bm), .slice Ai (inputsOf ns).length ci] 88 (0, 0)) :: Arr cGate 75 (.slice (some ⟨gn, 0, none⟩) ns.length cn) ns :: GMap bm (gatesOf ns) :: Arr (cNat .i64) 3 (.slice Ai (inputsOf ns).length ci) (inputsOf ns) :: Arr (cNat .i64) 3 (.slice AK K.length cK) K :: l) wr)
  case atStart => exact ⟨0, Nat.zero_le _, rfl, rfl, hs3⟩
  case round =>
    clear hs3
    obtain ⟨j, hj, hgk, rfl, hsr⟩ := hrel
    subst hgk
    have hnl := numGates_len (ns := ns) (K.take j)
    have hGK := fun n h => numGates_mem (ns := ns) (K := K.take j) n h
    by_cases hlt : j < K.length
    · obtain ⟨A', c', hv, -, hc⟩ := (hsr.pull 7).rd
      obtain ⟨ad, hA', hcell⟩ := rd_at hc j hlt
      obtain rfl : AK = some ad := by
        have : A' = AK := by injection hv with h1; exact h1.symm
        rw [← this]; exact hA'
      have hn := hKm _ (List.getElem_mem hlt)
      have HT := Lib.hid (numGates_succ (ns := ns) hlt)
      clear hc hv hA'
      rw [List.length_take_of_le hj] at hnl
      generalize hpp : numGates ns (K.take j) = p at *
      obtain ⟨G, V⟩ := p
      clear hpp
      simp only at hnl hsr
      obtain ⟨n1, n2, n3⟩ := hnl
      generalize K[j] = n at *
      have g0 : wr.cell? ⟨g, 0, none⟩ = some (.slice (some ⟨gn, 0, none⟩) ns.length cn) := (hsr.pull 3).cell 0
      have g2 : wr.cell? ⟨g, 2, none⟩ = some (.slice Ai (inputsOf ns).length ci) := (hsr.pull 3).cell 2
      have k0 : wr.cell? ⟨kv + 1, 0, none⟩ = some (.slice (some ⟨kv, 0, none⟩) ns.length ns.length) := (hsr.pull 2).cell 0
      have hrd := (hsr.pull 4).rd
      obtain ⟨Ag, cg, rfl, -, -⟩ := hsr.rd
      go_wp2_with fail
      refine (gate_walk wr g _ ns g0 hrd n hn (by omega)).mono ?_
      rintro e w' ⟨rfl, rfl⟩
      clear hrd
      cases hq : isGate ns n with
      | false =>
        go_wp2_with fail
        go_roundg (K.length - (j + 1))
        case measure => omega
        case rel => exact ⟨j + 1, by omega, rfl, by go_num, by rw [HT.out]; unfold numStep; rw [hq]; exact hsr⟩
      | true =>
        have HS := Lib.hid (show numStep ns (inputsOf ns).length (G, V) n = (G ++ [n], V.set n ((inputsOf ns).length + (G.length + 1))) by unfold numStep; rw [hq]; rfl)
        have hsa := hsr.alloc (.cells #[.int .i64 (n : Nat)] 3)
        clear g0 g2 k0
        go_wp2_with (first | (at_builtin; go_loud (refine wpList_app rfl _ _ rfl Tryd.underlying23 infoInt rfl (hsa.pull 1) rfl (ys := [n]) rfl (hsa.rd_blk (ys := [n]) 1 1 rfl rfl (by decide)) (by simp; omega) (by simp; omega) ?_); intro vo' w7 hs7))
        have hs8 := hs7.sel [0, 2, 3, 4, 5, 6, 7, 8] 1
        clear hs7 hsa hsr
        obtain ⟨Ag2, cg2, rfl, -, -⟩ := hs8.rd
        have hlen : (G ++ [n]).length = G.length + 1 := by simp
        rw [hlen] at hs8 ⊢
        have g2 : w7.cell? ⟨g, 2, none⟩ = some (.slice Ai (inputsOf ns).length ci) := (hs8.pull 3).cell 2
        have k0 : w7.cell? ⟨kv + 1, 0, none⟩ = some (.slice (some ⟨kv, 0, none⟩) ns.length ns.length) := (hs8.pull 2).cell 0
        have rk0 := Ext.rule k0
        have rg2 := Ext.rule g2
        go_wp2_with fail
        -- region 11 of (*cadence/aig.Graph).Print: 0:load 1:move 2:move 3:nilCheck 4:fieldAddr 5:load 6:call len 7:move 8:call len 9:binOp 10:convert 11:indexAddr 12:store
        refine wp_region_plan (Ext w7) [(0, 1), (1, 1), (2, 1), (3, 1), (4, 1), (5, 1), (6, 1), (7, 1), (8, 1), (9, 1), (10, 1)] 11 (by kernel_rfl) (by kernel_rfl) ?_
        have hx0 : Ext w7 w7.drew := Ext.refl w7
        iterate 11 (first | (refine plan_held_skip rfl rfl (by assumption) ?_; simp only [Act.put, List.setIfInBounds_toArray, List.set_cons_zero, List.set_cons_succ]) | (refine plan_held (v := ?_) rfl rfl (fun _ hSw => ?_) (by assumption) ?_; rotate_left; (focus (go_simp; try with_reducible rfl; done)); simp only [Act.put, List.setIfInBounds_toArray, List.set_cons_zero, List.set_cons_succ]))
        refine plan_end ?_
        simp only [List.drop]
        clear rk0 rg2 hx0 g2 k0
        have hsd := hs8.drew
        clear hs8
        generalize w7.drew = w8 at hsd ⊢
        have hvn : V[n]? = some V[n] := List.getElem?_eq_getElem (by omega)
        obtain ⟨cn0, cf0⟩ := (hsd.pull 1).arr_cell1 rfl n _ hvn _ rfl
        go_wp2_with fail
        refine NoPanic.normal ?_
        go_wp2_with fail
        go_roundg (K.length - (j + 1))
        case measure => omega
        case rel =>
          refine ⟨j + 1, by omega, rfl, by go_num, ?_⟩
          have hst := ((hsd.pull 1).arr_set1 rfl n (by omega) ((inputsOf ns).length + (G.length + 1)) _ rfl).sel [1, 0, 2, 3, 4, 5, 6, 7] 0
          rw [HT.out, HS.out]
          simp only [List.length_append, List.length_singleton]
          exact hst
    · obtain rfl : j = K.length := by omega
      rw [List.take_length] at hsr hnl hGK
      generalize hpp : numGates ns K = p at *
      obtain ⟨G, V⟩ := p
      clear hpp
      simp only at hnl hsr
      obtain ⟨n1, n2, n3⟩ := hnl
      have g2 : wr.cell? ⟨g, 2, none⟩ = some (.slice Ai (inputsOf ns).length ci) := (hsr.pull 3).cell 2
      obtain ⟨Ag, cg, rfl, -, -⟩ := hsr.rd
      go_wp2_with fail
      have hVl : ∀ i, (numIns (inputsOf ns) V i).length = ns.length := fun i => by rw [numIns_len]; exact n2
      have hVb : ∀ y ∈ numIns (inputsOf ns) V (inputsOf ns).length, y ≤ 1073741824 := fun y hy => by
        have := numIns_le (ins := inputsOf ns) (B := (inputsOf ns).length + K.length) n3 (inputsOf ns).length (by omega) y hy
        omega
      have hGm : ∀ n ∈ G, n < ns.length ∧ isGate ns n = true := fun n hn => ⟨hKm n (hGK n hn).1, (hGK n hn).2⟩
      have hs4 := hsr.sel [1, 0, 2, 3, 4, 5, 6] 1
      clear hsr g2 hKm hGK
      go_loopg [69] (inputsOf ns).length (fun k i wr => ∃ j : Nat, j ≤ (inputsOf ns).length ∧ k = (inputsOf ns).length - j ∧ i = .int .i64 j ∧ SL.St w0 (Arr (cNat .u32) 32 (.slice (some ⟨kv, 0, none⟩) ns.length ns.length) (numIns (inputsOf ns) V j) :: Arr (cNat .i64) 3 (.slice Ag G.length cg) G :: Blk (kv + 1) (.cells #[.slice (some ⟨kv, 0, none⟩) ns.length ns.length] 29 (0, 0)) ::
          Blk g (.cells #[.slice (some ⟨gn, 0, none⟩) ns.length cn, .map (some bm), .slice Ai (inputsOf ns).length ci] 88 (0, 0)) :: Arr cGate 75 (.slice (some ⟨gn, 0, none⟩) ns.length cn) ns :: GMap bm (gatesOf ns) :: Arr (cNat .i64) 3 (.slice Ai (inputsOf ns).length ci) (inputsOf ns) :: l) wr)
      case atStart => exact ⟨0, Nat.zero_le _, rfl, rfl, hs4⟩
      case round =>
        clear hs4
        obtain ⟨j, hj, hgk, rfl, hsr⟩ := hrel
        subst hgk
        by_cases hlt : j < (inputsOf ns).length
        · obtain ⟨A', c', hv, -, hc⟩ := (hsr.pull 6).rd
          obtain ⟨ad, hA', hcell⟩ := rd_at hc j hlt
          obtain rfl : Ai = some ad := by
            have : A' = Ai := by injection hv with h1; exact h1.symm
            rw [← this]; exact hA'
          have hn := hIm _ (List.getElem_mem hlt)
          have hvl := hVl j
          have HT := Lib.hid (show numIns (inputsOf ns) V (j + 1) = (numIns (inputsOf ns) V j).set (inputsOf ns)[j] (j + 1) by
            rw [numIns_succ]; simp [List.getD_eq_getElem?_getD, hlt])
          clear hc hv hA' hVl hVb
          generalize (inputsOf ns)[j] = n at *
          generalize numIns (inputsOf ns) V j = V1 at *
          have k0 : wr.cell? ⟨kv + 1, 0, none⟩ = some (.slice (some ⟨kv, 0, none⟩) ns.length ns.length) := (hsr.pull 2).cell 0
          have hvn : V1[n]? = some V1[n] := List.getElem?_eq_getElem (by omega)
          obtain ⟨cn0, cf0⟩ := hsr.arr_cell1 rfl n _ hvn _ rfl
          go_wp2_with fail
          go_roundg ((inputsOf ns).length - (j + 1))
          case measure => omega
          case rel =>
            refine ⟨j + 1, by omega, rfl, by go_num, ?_⟩
            have hst := hsr.arr_set1 rfl n (by omega) (j + 1) _ rfl
            rw [HT.out]
            exact hst
        · obtain rfl : j = (inputsOf ns).length := by omega
          have hvl := hVl (inputsOf ns).length
          clear hVl n3 n2
          generalize numIns (inputsOf ns) V (inputsOf ns).length = V1 at *
          have hmf : ∀ (fn : Fn) (first cap : Array Value) (w : World), (Instr.makeFunc fn first cap).run Tryd.prog w = .ok (.func fn first cap) w := fun _ _ _ _ => rfl
          obtain ⟨R, hR, hlow⟩ : ∃ R, R = _ ∧ SL.St w0 [Low wr.heap.size R] wr := ⟨_, rfl, hsr.low⟩
          have uV : ∀ (w' : World), SL.St w0 R w' → Rd (cNat .u32) (.slice (some ⟨kv, 0, none⟩) ns.length ns.length) V1 w' := fun w' h => by rw [hR] at h; exact h.rd
          have uC : ∀ (w' : World), SL.St w0 R w' → ∀ n (hn : n < V1.length), w'.cell? ⟨kv, n, none⟩ = some (.int .u32 (V1[n] : Nat)) := fun w' h n hn => by rw [hR] at h; exact (h.arr_cell1 rfl n _ (List.getElem?_eq_getElem hn) _ rfl).1
          have uk : ∀ (w' : World), SL.St w0 R w' → w'.cell? ⟨kv + 1, 0, none⟩ = some (.slice (some ⟨kv, 0, none⟩) ns.length ns.length) := fun w' h => by rw [hR] at h; exact (h.pull 2).cell 0
          have ug0 : ∀ (w' : World), SL.St w0 R w' → w'.cell? ⟨g, 0, none⟩ = some (.slice (some ⟨gn, 0, none⟩) ns.length cn) := fun w' h => by rw [hR] at h; exact (h.pull 3).cell 0
          have ug2 : ∀ (w' : World), SL.St w0 R w' → w'.cell? ⟨g, 2, none⟩ = some (.slice Ai (inputsOf ns).length ci) := fun w' h => by rw [hR] at h; exact (h.pull 3).cell 2
          have uG : ∀ (w' : World), SL.St w0 R w' → Rd (cNat .i64) (.slice Ag G.length cg) G w' := fun w' h => by rw [hR] at h; exact (h.pull 1).rd
          have uN : ∀ (w' : World), SL.St w0 R w' → ∀ n (hn : n < ns.length), w'.cell? ⟨gn, n * 2, none⟩ = some (.int .u32 ((nd ns n).1 : Nat)) ∧ w'.cell? ⟨gn, n * 2 + 1, none⟩ = some (.int .u32 ((nd ns n).2 : Nat)) := fun w' h n hn => by
            rw [hR] at h
            have hng := getElem?_nd hn
            obtain ⟨n0, -⟩ := (h.pull 4).arr_cell _ _ hng 0 _ rfl
            obtain ⟨n1, -⟩ := (h.pull 4).arr_cell _ _ hng 1 _ rfl
            simp only [cGate, Nat.add_zero] at n0 n1
            exact ⟨n0, n1⟩
          have uR : Ent R (Rd (cNat .u32) (.slice A roots.length c) roots) := fun w1 w2 s => by rw [hR] at s; exact hr.use (s.sel [] 7)
          have uT : Ent R Tab := fun w1 w2 s => by rw [hR] at s; exact ht.use (s.sel [] 7)
          have uE : ∀ (w' : World), SL.St w0 R w' → SL.St w0 (Graph g ns :: l) w' := fun w' h => by rw [hR] at h; exact St.mkGraph (h.sel [3, 4, 5, 6] 3)
          have HR := Lib.hid hR; clear hR hsr
          have hb0 : SL.St w0 [BldB wr.heap.size wr.heap.size [], Low wr.heap.size R] (wr.alloc (.cells #[.pointer none, .slice none 0 0] 94)) := (hlow.alloc _).bld_new (Nat.le_refl _)
          go_wp2_with fail
          generalize wr.heap.size = B at *
          generalize wr.alloc _ = w3 at hb0 ⊢
          have hsf : ∀ P ∈ [Low B R], SL.Safe B 5 P := fun P hP => by rw [List.mem_singleton.1 hP]; exact safe_low (Nat.le_refl _)
          refine (writeString_walk hb0 hsf ⟨#[97, 97, 103, 32]⟩ (by simp [ByteArray.size])).mono ?_
          rintro e w4 ⟨rfl, hb1⟩
          clear hb0 hlow
          have hb1 : SL.St w0 [BldB B B [97, 97, 103, 32], Low B R] w4 := hb1
          have g2 := ug2 _ (low_use hb1)
          have rg2 := Ext.rule g2
          have hxr : ∀ y ∈ [(inputsOf ns).length + G.length, (inputsOf ns).length, 0, roots.length, G.length], y < 4294967296 := by simp; omega
          have hln := line_lit w0 _ R B B w4.heap.size _ 5 #[.int .u32 ((inputsOf ns).length + G.length), .int .u32 (inputsOf ns).length, .int .u32 0, .int .u32 roots.length, .int .u32 G.length] [(inputsOf ns).length + G.length, (inputsOf ns).length, 0, roots.length, G.length] (hb1.alloc (.cells #[.int .u32 ((inputsOf ns).length + G.length), .int .u32 (inputsOf ns).length, .int .u32 0, .int .u32 roots.length, .int .u32 G.length] 32)).drew rfl (by simp [Cd.all, cNat]) uT hxr (by simp) (by simp)
          have HTX : PM = ([97, 97, 103, 32] ++ lineM [(inputsOf ns).length + G.length, (inputsOf ns).length, 0, roots.length, G.length]) ++ linesI (inputsOf ns).length ++ linesR V1 roots ++ linesG ns V1 G := HP.out
          have HTL : ([97, 97, 103, 32] ++ lineM [(inputsOf ns).length + G.length, (inputsOf ns).length, 0, roots.length, G.length] : List UInt8).length ≤ 1000 := by
            have := lineM_len hxr
            simp at this ⊢; omega
          replace HTX := Lib.hid HTX
          generalize ([97, 97, 103, 32] ++ lineM [(inputsOf ns).length + G.length, (inputsOf ns).length, 0, roots.length, G.length] : List UInt8) = T0 at *
          go_wp2_with fail
          -- region 22 of (*cadence/aig.Graph).Print: 0:move 1:move 2:nilCheck 3:fieldAddr 4:load 5:call len 6:move 7:call len 8:binOp 9:convert 10:move 11:nilCheck 12:fieldAddr 13:load 14:call len 15:convert 16:move 17:call len 18:convert 19:move 20:call len 21:convert 22:buildSlice 23:call fn
          refine wp_region_plan (Ext w4) [(0, 0), (1, 0), (2, 0), (3, 0), (4, 1), (5, 0), (6, 1), (7, 1), (8, 0), (9, 0), (10, 1), (11, 1), (12, 1), (13, 1), (14, 1), (15, 1), (16, 1), (17, 1), (18, 1), (19, 1), (20, 1), (21, 1)] 22 (by kernel_rfl) (by kernel_rfl) ?_
          have hx0 : Ext w4 w4.drew := Ext.refl w4
          iterate 4 (first | (refine plan_skip rfl rfl ?_; simp only [Act.put, List.setIfInBounds_toArray, List.set_cons_zero, List.set_cons_succ]) | (refine plan_pure (v := ?_) rfl rfl (fun _ => ?_) ?_; rotate_left; (focus (go_simp; try with_reducible rfl; done)); simp only [Act.put, List.setIfInBounds_toArray, List.set_cons_zero, List.set_cons_succ]))
          iterate 1 (first | (refine plan_held_skip rfl rfl (by assumption) ?_; simp only [Act.put, List.setIfInBounds_toArray, List.set_cons_zero, List.set_cons_succ]) | (refine plan_held (v := ?_) rfl rfl (fun _ hSw => ?_) (by assumption) ?_; rotate_left; (focus (go_simp; try with_reducible rfl; done)); simp only [Act.put, List.setIfInBounds_toArray, List.set_cons_zero, List.set_cons_succ]))
          iterate 1 (first | (refine plan_skip rfl rfl ?_; simp only [Act.put, List.setIfInBounds_toArray, List.set_cons_zero, List.set_cons_succ]) | (refine plan_pure (v := ?_) rfl rfl (fun _ => ?_) ?_; rotate_left; (focus (go_simp; try with_reducible rfl; done)); simp only [Act.put, List.setIfInBounds_toArray, List.set_cons_zero, List.set_cons_succ]))
          iterate 2 (first | (refine plan_held_skip rfl rfl (by assumption) ?_; simp only [Act.put, List.setIfInBounds_toArray, List.set_cons_zero, List.set_cons_succ]) | (refine plan_held (v := ?_) rfl rfl (fun _ hSw => ?_) (by assumption) ?_; rotate_left; (focus (go_simp; try with_reducible rfl; done)); simp only [Act.put, List.setIfInBounds_toArray, List.set_cons_zero, List.set_cons_succ]))
          iterate 2 (first | (refine plan_skip rfl rfl ?_; simp only [Act.put, List.setIfInBounds_toArray, List.set_cons_zero, List.set_cons_succ]) | (refine plan_pure (v := ?_) rfl rfl (fun _ => ?_) ?_; rotate_left; (focus (go_simp; try with_reducible rfl; done)); simp only [Act.put, List.setIfInBounds_toArray, List.set_cons_zero, List.set_cons_succ]))
          iterate 12 (first | (refine plan_held_skip rfl rfl (by assumption) ?_; simp only [Act.put, List.setIfInBounds_toArray, List.set_cons_zero, List.set_cons_succ]) | (refine plan_held (v := ?_) rfl rfl (fun _ hSw => ?_) (by assumption) ?_; rotate_left; (focus (go_simp; try with_reducible rfl; done)); simp only [Act.put, List.setIfInBounds_toArray, List.set_cons_zero, List.set_cons_succ]))
          refine plan_end ?_
          simp only [List.drop]
          clear rg2 hx0
          go_wp2_with fail
          refine hln.mono ?_
          rintro e w5 ⟨rfl, hb2⟩
          clear hb1 hln g2
          have g2 := ug2 _ (low_use hb2)
          go_wp2_with fail
          refine NoPanic.normal ?_
          go_wp2_with fail
          clear g2
          go_loopg [113] (inputsOf ns).length (fun k i wr => ∃ j : Nat, j ≤ (inputsOf ns).length ∧ k = (inputsOf ns).length - j ∧ i = .int .i64 j ∧ SL.St w0 [BldB B B (T0 ++ linesI j), Low B R] wr)
          case atStart => exact ⟨0, Nat.zero_le _, rfl, rfl, by simpa [linesI] using hb2⟩
          case round =>
            clear hb2
            obtain ⟨j, hj, hgk, rfl, hsr⟩ := hrel
            subst hgk
            rename_i WA _
            by_cases hlt : j < (inputsOf ns).length
            · have hlA := linesI_len (I := (inputsOf ns).length) (by omega) j hj
              have hln := line_lit w0 _ R B B wr.heap.size _ 1 #[.int .u32 (2 * ((j : Int) + 1))] [2 * (j + 1)] (hsr.alloc (.cells #[.int .u32 (2 * ((j : Int) + 1))] 32)) rfl (by simp [Cd.all, cNat]) uT (by simp; omega) (by simp) (by simp; omega)
              rw [List.append_assoc, ← linesI_succ] at hln
              go_wp2_with fail
              refine hln.mono ?_
              rintro e w6 ⟨rfl, hb3⟩
              clear hln
              go_wp2_with fail
              go_roundg ((inputsOf ns).length - (j + 1))
              case measure => omega
              case rel => exact ⟨j + 1, by omega, rfl, by go_num, hb3⟩
            · obtain rfl : j = (inputsOf ns).length := by omega
              have hlA := linesI_len (I := (inputsOf ns).length) (by omega) _ hj
              have HTX2 : PM = (T0 ++ linesI (inputsOf ns).length) ++ linesR V1 roots ++ linesG ns V1 G := HTX.out
              have HTL2 : (T0 ++ linesI (inputsOf ns).length).length ≤ 20000000000 := by simp; omega
              replace HTX2 := Lib.hid HTX2
              clear HTX HTL hlA
              generalize T0 ++ linesI (inputsOf ns).length = T1 at *
              go_wp2_with fail
              go_loopg [126] roots.length (fun k i wr => ∃ j : Nat, j ≤ roots.length ∧ k = roots.length - j ∧ i = .int .i64 j ∧ SL.St w0 [BldB B B (T1 ++ linesR V1 (roots.take j)), Low B R] wr)
              case atStart => exact ⟨0, Nat.zero_le _, rfl, rfl, by simpa [linesR] using hsr⟩
              case round =>
                clear hsr
                obtain ⟨j, hj, hgk, rfl, hsr⟩ := hrel
                subst hgk
                rename_i WB _
                have hlB := linesR_len hVb (roots.take j) (by simp; omega)
                by_cases hlt : j < roots.length
                · obtain ⟨A', c', hv, -, hc⟩ := uR.use (low_use hsr)
                  obtain ⟨ad, hA', hcell⟩ := rd_at hc j hlt
                  obtain rfl : A = some ad := by
                    have : A' = A := by injection hv with h1; exact h1.symm
                    rw [← this]; exact hA'
                  have hyl := hx _ (List.getElem_mem hlt)
                  have HT := Lib.hid (show linesR V1 (roots.take (j + 1)) = linesR V1 (roots.take j) ++ lineM [litV V1 roots[j]] by rw [List.take_succ_eq_append_getElem hlt, linesR_snoc])
                  clear hc hv hA'
                  generalize roots[j] = r at *
                  generalize linesR V1 (roots.take j) = T at *
                  have hwr := lit_walk wr (kv + 1) _ V1 (uk _ (low_use hsr)) (uV _ (low_use hsr)) r (by omega) (by omega) hVb
                  have hlt3 := litV_lt hVb r
                  generalize litV V1 r = z at *
                  have hln := line_lit w0 _ R B B wr.heap.size _ 1 #[.int .u32 (z : Nat)] [z] (hsr.alloc (.cells #[.int .u32 (z : Nat)] 32)) rfl rfl uT (by simp; omega) (by simp) (by simp; omega)
                  rw [List.append_assoc] at hln
                  go_wp2_with fail
                  refine hwr.mono ?_
                  rintro e w' ⟨rfl, rfl⟩
                  go_wp2_with fail
                  refine hln.mono ?_
                  rintro e w6 ⟨rfl, hb3⟩
                  clear hln hwr
                  go_wp2_with fail
                  go_roundg (roots.length - (j + 1))
                  case measure => omega
                  case rel => exact ⟨j + 1, by omega, rfl, by go_num, by rw [HT.out]; exact hb3⟩
                · obtain rfl : j = roots.length := by omega
                  rw [List.take_length] at hsr hlB
                  have HTX3 : PM = (T1 ++ linesR V1 roots) ++ linesG ns V1 G := HTX2.out
                  have HTL3 : (T1 ++ linesR V1 roots).length ≤ 40000000000 := by simp; omega
                  replace HTX3 := Lib.hid HTX3
                  clear HTX2 HTL2 hlB
                  generalize T1 ++ linesR V1 roots = T2 at *
                  go_wp2_with fail
                  go_loopg [139] G.length (fun k i wr => ∃ j : Nat, j ≤ G.length ∧ k = G.length - j ∧ i = .int .i64 j ∧ SL.St w0 [BldB B B (T2 ++ linesG ns V1 (G.take j)), Low B R] wr)
                  case atStart => exact ⟨0, Nat.zero_le _, rfl, rfl, by simpa [linesG] using hsr⟩
                  case round =>
                    clear hsr
                    obtain ⟨j, hj, hgk, rfl, hsr⟩ := hrel
                    subst hgk
                    rename_i WC _
                    have hlC := linesG_len hVb ns (G.take j) (by simp; omega)
                    by_cases hlt : j < G.length
                    · obtain ⟨A', c', hv, -, hc⟩ := uG _ (low_use hsr)
                      obtain ⟨ad, hA', hcell⟩ := rd_at hc j hlt
                      obtain rfl : Ag = some ad := by
                        have : A' = Ag := by injection hv with h1; exact h1.symm
                        rw [← this]; exact hA'
                      obtain ⟨hn, hng⟩ := hGm _ (List.getElem_mem hlt)
                      have HT := Lib.hid (show linesG ns V1 (G.take (j + 1)) = linesG ns V1 (G.take j) ++ lineG ns V1 G[j] by rw [List.take_succ_eq_append_getElem hlt, linesG_snoc])
                      clear hc hv hA'
                      generalize G[j] = n at *
                      generalize linesG ns V1 (G.take j) = T at *
                      obtain ⟨-, -, -, gA, gB⟩ := gg.gate n hn hng
                      obtain ⟨n0, n1⟩ := uN _ (low_use hsr) n hn
                      unfold lineG at HT
                      generalize nd ns n = x at *
                      obtain ⟨X, Y⟩ := x
                      simp only at n0 n1 gA gB HT
                      have g0 := ug0 _ (low_use hsr)
                      go_wp2_with fail
                      have hsk := hsr.alloc (.cells #[.int .u32 (X : Nat), .int .u32 (Y : Nat)] 75)
                      clear g0 n0 n1 hcell
                      generalize wr.heap.size = kk at hsk ⊢
                      generalize (World.alloc wr _) = w5 at hsk ⊢
                      have k0 : w5.cell? ⟨kk, 0, none⟩ = some (.int .u32 (X : Nat)) := hsk.cell 0
                      have k1 : w5.cell? ⟨kk, 1, none⟩ = some (.int .u32 (Y : Nat)) := hsk.cell 1
                      have hsk := hsk.drop
                      have kb := uk _ (low_use hsk)
                      have hvr := uV _ (low_use hsk)
                      have hcell2 := uC _ (low_use hsk) n (by omega)
                      have hzz : V1.getD n 0 = V1[n]'(by omega) := by simp [List.getD_eq_getElem?_getD, show n < V1.length by omega]
                      have hzb := hVb _ (List.getElem_mem (show n < V1.length by omega))
                      rw [hzz] at HT
                      clear hzz
                      generalize V1[n]'(by omega) = Z at *
                      have rk0 := Ext.rule k0
                      have rk1 := Ext.rule k1
                      have rkb := Ext.rule kb
                      have rkz := Ext.rule hcell2
                      have hwA := lit_walk w5.drew (kv + 1) _ V1 kb hvr.drew X (by omega) (by omega) hVb
                      have hwB := lit_walk w5.drew (kv + 1) _ V1 kb hvr.drew Y (by omega) (by omega) hVb
                      have hA3 := litV_lt hVb X
                      have hB3 := litV_lt hVb Y
                      generalize litV V1 X = a at *
                      generalize litV V1 Y = b at *
                      have hln := line_lit w0 _ R B B w5.heap.size _ 3 #[.int .u32 (2 * (Z : Int)), .int .u32 (a : Nat), .int .u32 (b : Nat)] [2 * Z, a, b] (hsk.alloc (.cells #[.int .u32 (2 * (Z : Int)), .int .u32 (a : Nat), .int .u32 (b : Nat)] 32)).drew rfl (by simp [Cd.all, cNat]) uT (by simp; omega) (by simp) (by simp; omega)
                      rw [List.append_assoc] at hln
                      go_wp2_with fail
                      -- region 37 of (*cadence/aig.Graph).Print: 0:move 1:load 2:move 3:indexAddr 4:load 5:binOp 6:move 7:fieldAddr 8:load 9:call fn 10:move 11:fieldAddr 12:load 13:call fn 14:buildSlice 15:call fn
                      refine wp_region_plan (Ext w5) [(0, 0), (1, 1), (2, 1), (3, 0), (4, 1), (5, 0), (6, 1), (7, 1), (8, 1), (10, 1), (11, 1), (12, 1), (9, 2), (13, 2)] 14 (by kernel_rfl) (by kernel_rfl) ?_
                      have hx0 : Ext w5 w5.drew := Ext.refl w5
                      iterate 1 (first | (refine plan_skip rfl rfl ?_; simp only [Act.put, List.setIfInBounds_toArray, List.set_cons_zero, List.set_cons_succ]) | (refine plan_pure (v := ?_) rfl rfl (fun _ => ?_) ?_; rotate_left; (focus (go_simp; try with_reducible rfl; done)); simp only [Act.put, List.setIfInBounds_toArray, List.set_cons_zero, List.set_cons_succ]))
                      iterate 2 (first | (refine plan_held_skip rfl rfl (by assumption) ?_; simp only [Act.put, List.setIfInBounds_toArray, List.set_cons_zero, List.set_cons_succ]) | (refine plan_held (v := ?_) rfl rfl (fun _ hSw => ?_) (by assumption) ?_; rotate_left; (focus (go_simp; try with_reducible rfl; done)); simp only [Act.put, List.setIfInBounds_toArray, List.set_cons_zero, List.set_cons_succ]))
                      iterate 1 (first | (refine plan_skip rfl rfl ?_; simp only [Act.put, List.setIfInBounds_toArray, List.set_cons_zero, List.set_cons_succ]) | (refine plan_pure (v := ?_) rfl rfl (fun _ => ?_) ?_; rotate_left; (focus (go_simp; try with_reducible rfl; done)); simp only [Act.put, List.setIfInBounds_toArray, List.set_cons_zero, List.set_cons_succ]))
                      iterate 1 (first | (refine plan_held_skip rfl rfl (by assumption) ?_; simp only [Act.put, List.setIfInBounds_toArray, List.set_cons_zero, List.set_cons_succ]) | (refine plan_held (v := ?_) rfl rfl (fun _ hSw => ?_) (by assumption) ?_; rotate_left; (focus (go_simp; try with_reducible rfl; done)); simp only [Act.put, List.setIfInBounds_toArray, List.set_cons_zero, List.set_cons_succ]))
                      iterate 1 (first | (refine plan_skip rfl rfl ?_; simp only [Act.put, List.setIfInBounds_toArray, List.set_cons_zero, List.set_cons_succ]) | (refine plan_pure (v := ?_) rfl rfl (fun _ => ?_) ?_; rotate_left; (focus (go_simp; try with_reducible rfl; done)); simp only [Act.put, List.setIfInBounds_toArray, List.set_cons_zero, List.set_cons_succ]))
                      iterate 6 (first | (refine plan_held_skip rfl rfl (by assumption) ?_; simp only [Act.put, List.setIfInBounds_toArray, List.set_cons_zero, List.set_cons_succ]) | (refine plan_held (v := ?_) rfl rfl (fun _ hSw => ?_) (by assumption) ?_; rotate_left; (focus (go_simp; try with_reducible rfl; done)); simp only [Act.put, List.setIfInBounds_toArray, List.set_cons_zero, List.set_cons_succ]))
                      ((refine plan_eff rfl (fun K hK => ?_)); go_simp; (refine hwA.mono ?_); (rintro e w' ⟨rfl, rfl⟩); (refine hK _ _ ⟨by assumption, ?_⟩); clear hK K)
                      ((refine plan_eff rfl (fun K hK => ?_)); go_simp; (refine hwB.mono ?_); (rintro e w' ⟨rfl, rfl⟩); (refine hK _ _ ⟨by assumption, ?_⟩); clear hK K)
                      refine plan_end ?_
                      simp only [List.drop]
                      clear rk0 rk1 rkb rkz hx0 k0 k1 kb hvr hcell2 hwA hwB
                      go_wp2_with fail
                      refine hln.mono ?_
                      rintro e w6 ⟨rfl, hb3⟩
                      clear hln
                      go_wp2_with fail
                      refine NoPanic.normal ?_
                      go_wp2_with fail
                      go_roundg (G.length - (j + 1))
                      case measure => omega
                      case rel => exact ⟨j + 1, by omega, rfl, by go_num, by rw [HT.out]; exact hb3⟩
                    · obtain rfl : j = G.length := by omega
                      rw [List.take_length] at hsr
                      have HTX4 : PM = T2 ++ linesG ns V1 G := HTX3.out
                      rw [← HTX4] at hsr
                      clear HTX4
                      have hne : PM ≠ [] := by rw [HP.out]; simp [textOf]
                      go_wp2_with fail
                      refine (string_walk hsr hsf hne).mono ?_
                      rintro e w7 ⟨rfl, hb4⟩
                      go_wp2_with fail
                      go_ret2
                      exact ⟨rfl, uE _ (low_use hb4)⟩
end Go.Proofs.YtjllogellpfpkaaDoor
