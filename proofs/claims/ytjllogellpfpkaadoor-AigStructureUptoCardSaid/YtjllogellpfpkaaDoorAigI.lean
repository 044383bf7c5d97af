/- Sim: 64 rows at one time. -/
import Derived.Test.YtjllogellpfpkaaDoorAigH
set_option linter.unusedVariables false
set_option linter.unusedSimpArgs false
namespace Go.Proofs.YtjllogellpfpkaaDoor
open Go Go.RowKit SL

theorem infoU64 : (Tryd.prog.info? 101).map (fun i => (i.zero, i.size, i.bytes)) = some (some (.int .u64 0), 1, 8) := by kernel_rfl

theorem run_make_cap {P : Program} (t e : TypeId) (z : Value) (bytes : Nat) (ht : P.underlying t = some (.slice e)) (hinfo : (P.info? e).map (fun i => (i.zero, i.size, i.bytes)) = some (some z, 1, bytes)) (hz1 : z.cells = #[z])
    (kl kc : IntKind) (n : Nat) (hbytes : bytes * n ≤ 281474976710656) (h63 : n ≤ 9223372036854775807) (w : World) :
    (Instr.makeSlice t (.int kl 0) (.int kc (n : Int))).run P w = .ok (.slice (some ⟨w.heap.size, 0, none⟩) 0 n) (w.alloc (.cells (madeCells #[z] n) e)) := by
  obtain ⟨i, hi, hzz⟩ := Option.map_eq_some_iff.1 hinfo
  simp only [Prod.mk.injEq] at hzz
  obtain ⟨hz, hs, hb⟩ := hzz
  have hb' : (i.bytes : Int) * (n : Int) ≤ 281474976710656 := by
    have h : ((i.bytes * n : Nat) : Int) ≤ 281474976710656 := by rw [hb]; omega
    rwa [Int.natCast_mul] at h
  have hr := run_make (P := P) (w := w) t e i z ht hi hz kl kc 0 n (by omega) (by omega) hb' (by omega)
  simp only [Int.toNat_natCast, Int.toNat_zero, hs, Nat.mul_one, hz1] at hr
  exact hr

/-- What memory holds within Sim. -/
def SimSt (w0 w : World) (l : List HP) (g : Nat) (ns : Nodes) (gn cn bm : Nat) (vis : Value) (kv kc : Nat) (vK : Value) (K vs : List Nat) : Prop :=
  SL.St w0 (Arr (cNat .u64) 101 (.slice (some ⟨kv, 0, none⟩) ns.length ns.length) vs :: Blk kc (.cells #[.slice (some ⟨kv, 0, none⟩) ns.length ns.length] 67 (0, 0)) ::
    Blk g (.cells #[.slice (some ⟨gn, 0, none⟩) ns.length cn, .map (some bm), vis] 88 (0, 0)) :: Arr cGate 75 (.slice (some ⟨gn, 0, none⟩) ns.length cn) ns :: GMap bm (gatesOf ns) :: Arr (cNat .i64) 3 vis (inputsOf ns) :: Arr (cNat .i64) 3 vK K :: l) w

set_option maxRecDepth 100000 in
set_option maxHeartbeats 4000000 in
theorem Sim_walk (w0 w : World) (l : List HP) (g : Nat) (ns : Nodes) (h : SL.St w0 (Graph g ns :: l) w) (hw : Wf ns) (hwi : WfIn ns) (hl : ns.length ≤ 1073741824) (vi : Value) (ins : List Nat) (hri : Ent l (Rd (cNat .u64) vi ins)) (hil : ins.length = (inputsOf ns).length) (hib : ∀ y ∈ ins, y < 18446744073709551616)
    (v : Value) (roots : List Nat) (hr : Ent l (Rd (cNat .u32) v roots)) (hx : ∀ y ∈ roots, y < 2 * ns.length) (hrl : roots.length ≤ 1073741824) :
    Calls Tryd.prog 36 #[.pointer (some ⟨g, 0, none⟩), vi, v] w fun e w' =>
      ∃ vo, e = .returned (.tuple #[vo, .int .i64 0]) ∧ SL.St w0 (Arr (cNat .u64) 101 vo (simM ns ins roots) :: Graph g ns :: l) w' := by
  have hmf : ∀ (fn : Fn) (first cap : Array Value) (w : World), (Instr.makeFunc fn first cap).run Tryd.prog w = .ok (.func fn first cap) w := fun _ _ _ _ => rfl
  have hpos : 0 < ns.length := by have := hw.1; omega
  obtain ⟨A, c, hv, hm, -⟩ := hr.use h.drop
  obtain ⟨Ai, ci, hvi, hmi, -⟩ := hri.use h.drop
  subst hv hvi
  unfold maxLen at hm hmi
  have HL := coneM_lined hw roots hx
  have hSM : simM ns ins roots = roots.map (wordOf (simOver ns ins (coneM ns roots))) := rfl
  generalize simM ns ins roots = SM at hSM ⊢
  have HM := Lib.hid hSM; clear hSM
  have hmk := run_make_row' (P := Tryd.prog) 67 101 (.int .u64 0) 8 Tryd.underlying67 infoU64 rfl .i64 .i64 ns.length (by omega) (by omega)
  have hmk2 := run_make_cap (P := Tryd.prog) 67 101 (.int .u64 0) 8 Tryd.underlying67 infoU64 rfl .i64 .i64 roots.length (by omega) (by omega)
  go_enter Tryd.func36, Tryd.ntmps36
  go_wp2_with fail
  refine (Cone_walk w0 w l g ns h hw hl _ roots hr hx).mono ?_
  rintro e w1 ⟨vc, rfl, hs1⟩
  generalize coneM ns roots = K at *
  obtain ⟨vn, vis, bm, hs2⟩ := St.graph hs1.swap
  obtain ⟨gn, cn, rfl⟩ := (hs2.pull 1).arr_form hpos
  obtain ⟨Ais, cis, rfl, -, -⟩ := (hs2.pull 3).rd
  obtain ⟨Ac, cc, rfl, hmc, -⟩ := (hs2.pull 4).rd
  unfold maxLen at hmc
  have g0 : w1.cell? ⟨g, 0, none⟩ = some (.slice (some ⟨gn, 0, none⟩) ns.length cn) := hs2.cell 0
  have g2 : w1.cell? ⟨g, 2, none⟩ = some (.slice Ais (inputsOf ns).length cis) := hs2.cell 2
  have hne : ((ins.length : Int) != ((inputsOf ns).length : Int)) = false := by simp [hil]
  go_wp2_with fail
  have hs3 := (hs2.alloc (.cells (madeCells #[Value.int .u64 0] ns.length) 101)).alloc (.cells #[.slice (some ⟨w1.heap.size, 0, none⟩) ns.length ns.length] 67)
  simp only [World.size_alloc] at hs3
  generalize hk : w1.heap.size = kv at *
  generalize ((w1.alloc _).alloc _) = w2 at hs3 ⊢
  have hs4 : SimSt w0 w2 l g ns gn cn bm (.slice Ais (inputsOf ns).length cis) kv (kv + 1) (.slice Ac K.length cc) K (List.replicate ns.length 0) :=
    ((hs3.pull 1).arr_made (d := cNat .u64) rfl (x := 0) rfl (by unfold maxLen; omega)).sel [0, 1, 2, 3, 4, 5, 6]
  clear hs1 hs2 hs3 g0 g2 hne hmk hk h
  go_loopg [46] K.length (fun k i wr => ∃ j : Nat, j ≤ K.length ∧ k = K.length - j ∧ i = .int .i64 j ∧ SimSt w0 wr l g ns gn cn bm (.slice Ais (inputsOf ns).length cis) kv (kv + 1) (.slice Ac K.length cc) K (simOver ns ins (K.take j)))
  case atStart => exact ⟨0, Nat.zero_le _, rfl, rfl, hs4⟩
  case round =>
    obtain ⟨j, hj, hgk, rfl, hsr⟩ := hrel
    subst hgk
    clear hs4
    by_cases hlt : j < K.length
    · obtain ⟨A', c', hv, -, hc⟩ := (SL.St.pull hsr 6).rd
      obtain ⟨ad, hA', hcell⟩ := rd_at hc j hlt
      obtain rfl : Ac = some ad := by
        have : A' = Ac := by injection hv with h1; exact h1.symm
        rw [← this]; exact hA'
      have haf := HL.1.at hlt
      have HT := Lib.hid (show simOver ns ins (K.take (j + 1)) = simStep ns ins (simOver ns ins (K.take j)) K[j] by rw [List.take_succ_eq_append_getElem hlt, simOver_snoc])
      clear hc hv hA'
      generalize hn : K[j] = n at *
      clear hn
      have hvl := simOver_length ns ins (K.take j)
      have hvb := simOver_lt (ns := ns) hib (K.take j)
      generalize simOver ns ins (K.take j) = vs at *
      obtain ⟨hn0, hnl, -, hops⟩ := haf
      have hng : ns[n]? = some ns[n] := List.getElem?_eq_getElem hnl
      obtain ⟨n0, -⟩ := (SL.St.pull hsr 3).arr_cell _ _ hng 0 _ rfl
      obtain ⟨n1, -⟩ := (SL.St.pull hsr 3).arr_cell _ _ hng 1 _ rfl
      simp only [cGate, Nat.add_zero] at n0 n1
      have hgd : ns.getD n (0, 0) = ns[n] := by simp [List.getD_eq_getElem?_getD, hnl]
      have hwop := hw.2 n hnl
      have hwin := hwi n hnl hn0
      unfold opA opB at hwop
      unfold simStep at HT
      rw [hgd] at hwop hwin HT
      generalize ns[n] = x at *
      obtain ⟨X, Y⟩ := x
      simp only at n0 n1 hwop hwin
      have g0 : wr.cell? ⟨g, 0, none⟩ = some (.slice (some ⟨gn, 0, none⟩) ns.length cn) := (SL.St.pull hsr 2).cell 0
      go_wp2_with fail
      have hsk := SL.St.alloc hsr (.cells #[.int .u32 (X : Nat), .int .u32 (Y : Nat)] 75)
      clear g0 n0 n1 hcell
      generalize wr.heap.size = kk at hsk ⊢
      generalize (World.alloc wr _) = w5 at hsk ⊢
      have g0 : w5.cell? ⟨g, 0, none⟩ = some (.slice (some ⟨gn, 0, none⟩) ns.length cn) := (hsk.pull 3).cell 0
      have hrd := (hsk.pull 4).rd
      refine (gate_walk w5 g _ ns g0 hrd n hnl hl).mono ?_
      rintro e w' ⟨rfl, rfl⟩
      have k0 : w5.cell? ⟨kk, 0, none⟩ = some (.int .u32 (X : Nat)) := hsk.cell 0
      have k1 : w5.cell? ⟨kk, 1, none⟩ = some (.int .u32 (Y : Nat)) := hsk.cell 1
      have kc0 : w5.cell? ⟨kv + 1, 0, none⟩ = some (.slice (some ⟨kv, 0, none⟩) ns.length ns.length) := (hsk.pull 2).cell 0
      have hvr := (hsk.pull 1).rd
      have rk0 := Ext.rule k0
      have rk1 := Ext.rule k1
      have rkc := Ext.rule kc0
      have hvn : vs[n]? = some vs[n] := List.getElem?_eq_getElem (by omega)
      clear g0 hrd
      cases hq : isGate ns n with
      | true =>
        obtain ⟨hoA, hoB⟩ := hwop hq
        go_wp2_with fail
        -- region 13 of (*cadence/aig.Graph).Sim: 0:load 1:move 2:move 3:fieldAddr 4:load 5:call fn 6:move 7:fieldAddr 8:load 9:call fn 10:binOp 11:indexAddr 12:store
        refine wp_region_plan (Ext w5) [(0, 1), (1, 1), (2, 1), (3, 1), (4, 1), (6, 1), (7, 1), (8, 1), (5, 2), (9, 2), (10, 1)] 11 (by kernel_rfl) (by kernel_rfl) ?_
        have hx0 : Ext w5 w5.drew := Ext.refl w5
        iterate 8 (first | (refine plan_held_skip rfl rfl (by assumption) ?_; simp only [Act.put, List.setIfInBounds_toArray, List.set_cons_zero, List.set_cons_succ]) | (refine plan_held (v := ?_) rfl rfl (fun _ hSw => ?_) (by assumption) ?_; rotate_left; (focus (go_simp; try with_reducible rfl; done)); simp only [Act.put, List.setIfInBounds_toArray, List.set_cons_zero, List.set_cons_succ]))
        ((refine plan_eff rfl (fun K hK => ?_)); go_simp; (refine (sim1_walk w5.drew (kv + 1) _ vs kc0 hvr.drew X (by omega) (by omega) hvb).mono ?_); (rintro e w' ⟨rfl, rfl⟩); (refine hK _ _ ⟨by assumption, ?_⟩); clear hK K)
        ((refine plan_eff rfl (fun K hK => ?_)); go_simp; (refine (sim1_walk w5.drew (kv + 1) _ vs kc0 hvr.drew Y (by omega) (by omega) hvb).mono ?_); (rintro e w' ⟨rfl, rfl⟩); (refine hK _ _ ⟨by assumption, ?_⟩); clear hK K)
        iterate 1 (first | (refine plan_held_skip rfl rfl (by assumption) ?_; simp only [Act.put, List.setIfInBounds_toArray, List.set_cons_zero, List.set_cons_succ]) | (refine plan_held (v := ?_) rfl rfl (fun _ hSw => ?_) (by assumption) ?_; rotate_left; (focus (go_simp; try with_reducible rfl; done)); simp only [Act.put, List.setIfInBounds_toArray, List.set_cons_zero, List.set_cons_succ]))
        refine plan_end ?_
        simp only [List.drop]
        clear rk0 rk1 rkc k0 k1 kc0 hvr hx0 hoA hoB
        have hsd := hsk.drew
        generalize w5.drew = w6 at hsd ⊢
        obtain ⟨cn0, cf0⟩ := (hsd.pull 1).arr_cell1 rfl n _ hvn _ rfl
        go_wp2_with fail
        refine NoPanic.normal ?_
        go_wp2_with fail
        go_roundg (K.length - (j + 1))
        case measure => omega
        case rel =>
          refine ⟨j + 1, by omega, rfl, by go_num, ?_⟩
          have hst := ((hsd.pull 1).arr_set1 rfl n (by omega) (wordOf vs X &&& wordOf vs Y) _ rfl).sel [0, 2, 3, 4, 5, 6, 7] 1
          have hT := HT.out
          rw [if_pos hq] at hT
          rw [hT]
          have hbb := bits_and_u64_nat (wordOf vs X) (wordOf vs Y) (wordOf_lt hvb X) (wordOf_lt hvb Y)
          rw [hbb]
          exact hst
      | false =>
        have hY : Y < ins.length := by have := hwin hq; omega
        obtain ⟨A', c', hv, -, hc⟩ := hri.use (hsk.sel [] 8)
        obtain ⟨adi, hA', hcelli⟩ := rd_at hc Y hY
        obtain rfl : Ai = some adi := by
          have : A' = Ai := by injection hv with h1; exact h1.symm
          rw [← this]; exact hA'
        have hYb := hib _ (List.getElem_mem hY)
        have hgi : ins.getD Y 0 = ins[Y] := by simp [List.getD_eq_getElem?_getD, hY]
        have hT := HT.out
        rw [if_neg (by rw [hq]; exact Bool.false_ne_true), hgi] at hT
        clear hc hv hA' HT hgi
        generalize ins[Y] = z at *
        have HT := Lib.hid hT; clear hT
        have ri := Ext.rule hcelli
        go_wp2_with fail
        -- region 14 of (*cadence/aig.Graph).Sim: 0:load 1:move 2:move 3:fieldAddr 4:load 5:indexAddr 6:load 7:indexAddr 8:store
        refine wp_region_plan (Ext w5) [(0, 1), (1, 1), (2, 1), (3, 1), (4, 1), (5, 1), (6, 1)] 7 (by kernel_rfl) (by kernel_rfl) ?_
        have hx0 : Ext w5 w5.drew := Ext.refl w5
        iterate 7 (first | (refine plan_held_skip rfl rfl (by assumption) ?_; simp only [Act.put, List.setIfInBounds_toArray, List.set_cons_zero, List.set_cons_succ]) | (refine plan_held (v := ?_) rfl rfl (fun _ hSw => ?_) (by assumption) ?_; rotate_left; (focus (go_simp; try with_reducible rfl; done)); simp only [Act.put, List.setIfInBounds_toArray, List.set_cons_zero, List.set_cons_succ]))
        refine plan_end ?_
        simp only [List.drop]
        clear rk0 rk1 rkc k0 k1 kc0 hvr hx0 ri hcelli
        have hsd := hsk.drew
        generalize w5.drew = w6 at hsd ⊢
        obtain ⟨cn0, cf0⟩ := (hsd.pull 1).arr_cell1 rfl n _ hvn _ rfl
        go_wp2_with fail
        refine NoPanic.normal ?_
        go_wp2_with fail
        go_roundg (K.length - (j + 1))
        case measure => omega
        case rel =>
          refine ⟨j + 1, by omega, rfl, by go_num, ?_⟩
          have hst := ((hsd.pull 1).arr_set1 rfl n (by omega) z _ rfl).sel [0, 2, 3, 4, 5, 6, 7] 1
          rw [HT.out]
          exact hst
    · obtain rfl : j = K.length := by omega
      rw [List.take_length] at hsr
      have hvl := simOver_length ns ins K
      have hvb := simOver_lt (ns := ns) hib K
      generalize simOver ns ins K = vs at *
      go_wp2_with fail
      have hs5 := (((SL.St.alloc hsr (.cells (madeCells #[Value.int .u64 0] roots.length) 101)).arr_empty (d := cNat .u64) rfl (by unfold maxLen; omega)))
      generalize wr.heap.size = ko at hs5 ⊢
      generalize (World.alloc wr _) = w5 at hs5 ⊢
      clear hsr hmk2
      go_loopg [15, 86] roots.length (fun k vo i wr => ∃ j : Nat, j ≤ roots.length ∧ k = roots.length - j ∧ i = .int .i64 j ∧ SL.St w0 (Arr (cNat .u64) 101 vo ((roots.take j).map (wordOf vs)) :: Arr (cNat .u64) 101 (.slice (some ⟨kv, 0, none⟩) ns.length ns.length) vs :: Blk (kv + 1) (.cells #[.slice (some ⟨kv, 0, none⟩) ns.length ns.length] 67 (0, 0)) ::
    Blk g (.cells #[.slice (some ⟨gn, 0, none⟩) ns.length cn, .map (some bm), .slice Ais (inputsOf ns).length cis] 88 (0, 0)) :: Arr cGate 75 (.slice (some ⟨gn, 0, none⟩) ns.length cn) ns :: GMap bm (gatesOf ns) :: Arr (cNat .i64) 3 (.slice Ais (inputsOf ns).length cis) (inputsOf ns) :: Arr (cNat .i64) 3 (.slice Ac K.length cc) K :: l) wr)
      case atStart => exact ⟨0, Nat.zero_le _, rfl, rfl, hs5⟩
      case round =>
        clear hs5
        obtain ⟨j, hj, hgk, rfl, hsr⟩ := hrel
        subst hgk
        obtain ⟨Ao, co, rfl, -, -⟩ := hsr.rd
        by_cases hlt : j < roots.length
        · obtain ⟨A', c', hv, -, hc⟩ := hr.use (hsr.sel [] 8)
          obtain ⟨ad, hA', hcell⟩ := rd_at hc j hlt
          obtain rfl : A = some ad := by
            have : A' = A := by injection hv with h1; exact h1.symm
            rw [← this]; exact hA'
          have hyl := hx _ (List.getElem_mem hlt)
          have HT := Lib.hid (show (roots.take (j + 1)).map (wordOf vs) = (roots.take j).map (wordOf vs) ++ [wordOf vs roots[j]] by rw [List.take_succ_eq_append_getElem hlt, List.map_append]; rfl)
          have HLJ := Lib.hid (show ((roots.take j).map (wordOf vs)).length = j by simp; omega)
          clear hc hv hA'
          generalize (roots.take j).map (wordOf vs) = os at *
          generalize roots[j] = r at *
          have kc0 : wr.cell? ⟨kv + 1, 0, none⟩ = some (.slice (some ⟨kv, 0, none⟩) ns.length ns.length) := (hsr.pull 2).cell 0
          have hvr := (hsr.pull 1).rd
          have hsa := hsr.alloc (.cells #[.int .u64 (wordOf vs r : Nat)] 101)
          go_wp2_with fail
          refine (sim1_walk wr (kv + 1) _ vs kc0 hvr r (by omega) (by omega) hvb).mono ?_
          rintro e w' ⟨rfl, rfl⟩
          go_wp2_with (first | (at_builtin; go_loud (refine wpList_app rfl _ _ rfl Tryd.underlying67 infoU64 rfl (hsa.pull 1) rfl (ys := [wordOf vs r]) rfl (hsa.rd_blk (ys := [wordOf vs r]) 1 1 rfl rfl (by decide)) (by have := HLJ.out; simp; omega) (by have := HLJ.out; simp; omega) ?_); intro vo' w7 hs7))
          go_roundg (roots.length - (j + 1))
          case measure => omega
          case rel => exact ⟨j + 1, by omega, rfl, by go_num, by rw [HT.out]; exact hs7.sel [0, 2, 3, 4, 5, 6, 7, 8] 1⟩
        · obtain rfl : j = roots.length := by omega
          have HE := Lib.hid (show roots.map (wordOf vs) = (roots.take roots.length).map (wordOf vs) by rw [List.take_length])
          generalize (roots.take roots.length).map (wordOf vs) = os at *
          go_wp2_with fail
          go_ret2
          refine ⟨_, rfl, ?_⟩
          rw [HM.out, HE.out]
          exact (St.mkGraph (hsr.sel [3, 4, 5, 6, 0] 3)).swap
end Go.Proofs.YtjllogellpfpkaaDoor
