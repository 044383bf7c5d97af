/- Lay: another graph's cone in this one. -/
import Derived.Test.YtjllogellpfpkaaDoorAigL2
import Derived.Laws.EntriesVeiled
set_option linter.unusedVariables false
set_option linter.unusedSimpArgs false
namespace Go.Proofs.YtjllogellpfpkaaDoor
open Go Go.RowKit SL

set_option maxRecDepth 100000 in
set_option maxHeartbeats 4000000 in
theorem Lay_walk (w0 w : World) (R RH : List HP) (g h : Nat) (ns hs : Nodes) (hst : SL.St w0 (Graph g ns :: R) w) (hperm : (Graph g ns :: R).Perm (Graph h hs :: RH)) (gg : GoodG ns) (gh : GoodG hs) (hl : ns.length + hs.length ≤ 1073741824)
    (vi : Value) (ins : List Nat) (hri : Ent R (Rd (cNat .u32) vi ins)) (hil : ins.length = (inputsOf hs).length) (hi : ∀ y ∈ ins, y < 2 * ns.length)
    (v : Value) (roots : List Nat) (hr : Ent R (Rd (cNat .u32) v roots)) (hr2 : Ent RH (Rd (cNat .u32) v roots)) (hx : ∀ y ∈ roots, y < 2 * hs.length) (hrl : roots.length ≤ 1073741824) :
    Calls Tryd.prog 19 #[.pointer (some ⟨g, 0, none⟩), .pointer (some ⟨h, 0, none⟩), vi, v] w fun e w' =>
      ∃ vo, e = .returned (.tuple #[vo, .int .i64 0]) ∧ SL.St w0 (Arr (cNat .u32) 32 vo (layM ns hs ins roots).1 :: Graph g (layM ns hs ins roots).2 :: R) w' := by
  have hmf : ∀ (fn : Fn) (first cap : Array Value) (w : World), (Instr.makeFunc fn first cap).run Tryd.prog w = .ok (.func fn first cap) w := fun _ _ _ _ => rfl
  obtain ⟨A, c, hv, hm, -⟩ := hr.use hst.drop
  obtain ⟨Ai, ci, hvi, hmi, -⟩ := hri.use hst.drop
  subst hv hvi
  unfold maxLen at hm hmi
  have HIL := Lib.hid hil; clear hil
  have hps := gg.pos
  have hph : 0 < hs.length := by have := gh.pos; omega
  have HL := coneM_lined gh.wf roots hx
  have hSM : layM ns hs ins roots = (roots.map (mvL (layOver hs ins ns (coneM hs roots)).1), (layOver hs ins ns (coneM hs roots)).2) := rfl
  generalize layM ns hs ins roots = SM at hSM ⊢
  have HM := Lib.hid hSM; clear hSM
  have hmk := run_make_row' (P := Tryd.prog) 29 32 (.int .u32 0) 4 Tryd.underlying29 infoU32 rfl .i64 .i64 hs.length (by omega) (by omega)
  have hmk2 := run_make_cap (P := Tryd.prog) 29 32 (.int .u32 0) 4 Tryd.underlying29 infoU32 rfl .i64 .i64 roots.length (by omega) (by omega)
  have hs1 := (hst.alloc (.cells #[.pointer (some ⟨g, 0, none⟩)] 24)).alloc (.cells #[.slice Ai ins.length ci] 29)
  simp only [World.size_alloc] at hs1
  go_enter Tryd.func19, Tryd.ntmps19
  go_wp2_with fail
  generalize hk : w.heap.size = kg at *
  generalize ((w.alloc _).alloc _) = w1 at hs1 ⊢
  have hsH : SL.St w0 (Graph h hs :: (RH ++ [])) w1 := by
    rw [List.append_nil]; exact (hs1.drop.drop).perm hperm
  rw [List.append_nil] at hsH
  obtain ⟨vnh, vih, bmh, hh⟩ := St.graph hsH
  obtain ⟨Anh, cnh, rfl, hmnh, -⟩ := (hh.pull 1).rd
  obtain ⟨Aih, cih, rfl, hmih, -⟩ := (hh.pull 3).rd
  have h0 : w1.cell? ⟨h, 0, none⟩ = some (.slice Anh hs.length cnh) := hh.cell 0
  have h2 : w1.cell? ⟨h, 2, none⟩ = some (.slice Aih (inputsOf hs).length cih) := hh.cell 2
  obtain ⟨vng, vig, bmg, hg⟩ := St.graph (hs1.drop.drop)
  obtain ⟨Ang, cng, rfl, hmng, -⟩ := (hg.pull 1).rd
  have g0 : w1.cell? ⟨g, 0, none⟩ = some (.slice Ang ns.length cng) := hg.cell 0
  have k0 : w1.cell? ⟨kg, 0, none⟩ = some (.pointer (some ⟨g, 0, none⟩)) := (hs1.pull 1).cell 0
  have k1 : w1.cell? ⟨kg + 1, 0, none⟩ = some (.slice Ai ins.length ci) := hs1.cell 0
  have hmay1 : (roots.all fun y => decide (y / 2 < hs.length)) = true := by
    rw [List.all_eq_true]; intro y hy; have := hx y hy; simp; omega
  have hmay2 : (ins.all fun y => decide (y / 2 < ns.length)) = true := by
    rw [List.all_eq_true]; intro y hy; have := hi y hy; simp; omega
  have hrb : ∀ y ∈ roots, y < 4294967296 := fun y hy => by have := hx y hy; omega
  have hib : ∀ y ∈ ins, y < 4294967296 := fun y hy => by have := hi y hy; omega
  have hm1 := may_walk w1 h _ _ _ _ roots h0 (by omega) (hr.use hs1.drop.drop.drop) hrb
  rw [hmay1] at hm1
  refine hm1.mono ?_
  clear hm1 hmay1 hrb
  rintro e w' ⟨rfl, rfl⟩
  have r1 := Ext.rule k1
  have r2 := Ext.rule h2
  have hne : ((ins.length : Int) != ((inputsOf hs).length : Int)) = false := by simp [HIL.out]
  go_wp2_with fail
  -- region 5 of (*cadence/aig.Graph).Lay: 0:load 1:call len 2:move 3:nilCheck 4:fieldAddr 5:load 6:call len 7:binOp 8:assign
  refine wp_region_plan (Ext w1) [(0, 1), (1, 0), (2, 1), (3, 1), (4, 1), (5, 1), (6, 1)] 7 (by kernel_rfl) (by kernel_rfl) ?_
  have hx0 : Ext w1 w1.drew := Ext.refl w1
  iterate 1 (first | (refine plan_held_skip rfl rfl (by assumption) ?_; simp only [Act.put, List.setIfInBounds_toArray, List.set_cons_zero, List.set_cons_succ]) | (refine plan_held (v := ?_) rfl rfl (fun _ hSw => ?_) (by assumption) ?_; rotate_left; (focus (go_simp; try with_reducible rfl; done)); simp only [Act.put, List.setIfInBounds_toArray, List.set_cons_zero, List.set_cons_succ]))
  iterate 1 (first | (refine plan_skip rfl rfl ?_; simp only [Act.put, List.setIfInBounds_toArray, List.set_cons_zero, List.set_cons_succ]) | (refine plan_pure (v := ?_) rfl rfl (fun _ => ?_) ?_; rotate_left; (focus (go_simp; try with_reducible rfl; done)); simp only [Act.put, List.setIfInBounds_toArray, List.set_cons_zero, List.set_cons_succ]))
  iterate 5 (first | (refine plan_held_skip rfl rfl (by assumption) ?_; simp only [Act.put, List.setIfInBounds_toArray, List.set_cons_zero, List.set_cons_succ]) | (refine plan_held (v := ?_) rfl rfl (fun _ hSw => ?_) (by assumption) ?_; rotate_left; (focus (go_simp; try with_reducible rfl; done)); simp only [Act.put, List.setIfInBounds_toArray, List.set_cons_zero, List.set_cons_succ]))
  refine plan_end ?_
  simp only [List.drop]
  go_wp2_with fail
  refine NoPanic.normal ?_
  clear r1 r2 hx0 hg hh hsH
  have hs2 := hs1.drew
  have g0 : w1.drew.cell? ⟨g, 0, none⟩ = some (.slice Ang ns.length cng) := g0
  have k0 : w1.drew.cell? ⟨kg, 0, none⟩ = some (.pointer (some ⟨g, 0, none⟩)) := k0
  have k1 : w1.drew.cell? ⟨kg + 1, 0, none⟩ = some (.slice Ai ins.length ci) := k1
  clear hs1 h0 h2
  generalize w1.drew = w2 at hs2 g0 k0 k1 ⊢
  have hm2 := may_walk w2 g _ _ _ _ ins g0 (by omega) (hri.use hs2.drop.drop.drop) hib
  rw [hmay2] at hm2
  go_wp2_with fail
  refine hm2.mono ?_
  clear hm2 hmay2 hib g0 hne
  rintro e w' ⟨rfl, rfl⟩
  have hs3 : SL.St w0 (Graph h hs :: _ :: _ :: RH) w2 := (hs2.perm (((hperm.cons _).cons _))).pull 2
  go_wp2_with fail
  refine (cone_walk w0 w2 _ h hs hs3 gh.wf (by omega) _ roots (Ent.tail (Ent.tail hr2)) hx).mono ?_
  rintro e w3 ⟨vK, rfl, hs4⟩
  generalize coneM hs roots = K at *
  obtain ⟨AK, cK, rfl, hmK, -⟩ := hs4.rd
  obtain ⟨vnh, vih, bmh, hh⟩ := St.graph hs4.swap
  obtain ⟨gnh, cnh, rfl⟩ := (hh.pull 1).arr_form hph
  have h0 : w3.cell? ⟨h, 0, none⟩ = some (.slice (some ⟨gnh, 0, none⟩) hs.length cnh) := hh.cell 0
  obtain ⟨r0, -⟩ := allocs h0
  have hs5 := hh.alloc (.cells #[.slice AK K.length cK] 23)
  go_wp2_with fail
  generalize w3.heap.size = kco at hs5 ⊢
  generalize w3.alloc _ = w4 at hs5 ⊢
  clear r0 h0
  refine (clone_walk w0 w4 _ hs5 _ hs (fun _ _ h => (h.pull 2).rd) hph (by omega)).mono ?_
  rintro e w5 ⟨vg, rfl, hs6⟩
  obtain ⟨gng, cng2, rfl⟩ := hs6.arr_form hph
  have hs7 := ((hs6.alloc (.cells #[.slice (some ⟨gng, 0, none⟩) hs.length cng2] 85)).alloc (.cells (madeCells #[Value.int .u32 0] hs.length) 32)).alloc (.cells #[.slice (some ⟨w5.heap.size + 1, 0, none⟩) hs.length hs.length] 29)
  have hs8 := hs7.alloc (.cells #[.func (.func 50) #[] #[.pointer (some ⟨w5.heap.size + 1 + 1, 0, none⟩)]] 103)
  simp only [World.size_alloc] at hs8
  clear hs7
  have k00 : w5.cell? ⟨kg, 0, none⟩ = some (.pointer (some ⟨g, 0, none⟩)) := (hs6.pull 8).cell 0
  obtain ⟨-, -, -, r4, -⟩ := allocs k00
  go_wp2_with fail
  generalize w5.heap.size = kb at hs8 ⊢
  generalize ((((w5.alloc _).alloc _).alloc _).alloc _) = w6 at hs8 ⊢
  clear r4 k00 hs6 hs5 hs4 hs3 hs2 hh hmk
  have hs9 := ((hs8.pull 2).arr_made (d := cNat .u32) rfl (x := 0) rfl (by unfold maxLen; omega)).sel [6, 7, 8, 9, 0, 1, 2, 3, 4, 5, 10, 11, 12]
  have hs10 : SL.St w0 (Graph h hs :: ([_, _, _, _, _, _, _, _, _] ++ RH)) w6 := St.mkGraph hs9
  have hs11 := ((hs10.perm List.perm_middle.symm).perm (hperm.symm.append_left _)).perm List.perm_middle
  have hs12 : SL.St w0 (Graph g ns :: LayParts (kb + 1) (kb + 1 + 1) (kb + 1 + 1 + 1) kb kco (kg + 1) kg (.slice (some ⟨gng, 0, none⟩) hs.length cng2) (.slice AK K.length cK) (.slice Ai ins.length ci) g hs K (List.replicate hs.length 0) R) w6 := hs11
  clear hs8 hs9 hs10 hs11
  have hok := layOver_ok (ins := ins) gh HL.1 hps hi HIL.out
  have hKl := HL.1.length_le
  refine (made_turns w0 w6 _ (LayParts (kb + 1) (kb + 1 + 1) (kb + 1 + 1 + 1) kb kco (kg + 1) kg (.slice (some ⟨gng, 0, none⟩) hs.length cng2) (.slice AK K.length cK) (.slice Ai ins.length ci) g hs K (layOver hs ins ns K).1 R) g ns (layOver hs ins ns K).2 0 52 _ hs12 (fun _ => by kernel_rfl) ?_).mono ?_
  · intro l1 w7 hs13
    exact lay2_walk w0 w7 l1 R g ns hs ins K _ _ _ _ _ _ _ _ _ _ hs13 hri HL.1 gh hps hi HIL.out hl
  rintro e w7 ⟨rfl, hs13⟩
  generalize layOver hs ins ns K = p at *
  obtain ⟨to, ms⟩ := p
  obtain ⟨⟨htl, htb, hmp, hmle⟩, -⟩ := hok
  simp only at htl htb hmp hmle hs13
  unfold LayParts at hs13
  have HTL := Lib.hid htl
  have tb : ∀ y ∈ to, y < 4294967296 := fun y hy => by have := htb y hy; omega
  clear hs12 htl
  go_wp2_with fail
  have hs14 := (hs13.alloc (.cells (madeCells #[Value.int .u32 0] roots.length) 32)).arr_empty (d := cNat .u32) rfl (by unfold maxLen; omega)
  generalize w7.heap.size = ko at hs14 ⊢
  generalize w7.alloc _ = w8 at hs14 ⊢
  clear hs13 hmk2
  go_loopg [16, 71] roots.length (fun k vo i wr => ∃ j : Nat, j ≤ roots.length ∧ k = roots.length - j ∧ i = .int .i64 j ∧ SL.St w0 (Arr (cNat .u32) 32 vo ((roots.take j).map (mvL to)) :: Graph g ms :: Arr (cNat .u32) 32 (.slice (some ⟨kb + 1, 0, none⟩) hs.length hs.length) to ::
      Blk (kb + 1 + 1 + 1) (.cells #[.func (.func 50) #[] #[.pointer (some ⟨kb + 1 + 1, 0, none⟩)]] 103 (0, 0)) :: Blk (kb + 1 + 1) (.cells #[.slice (some ⟨kb + 1, 0, none⟩) hs.length hs.length] 29 (0, 0)) :: _ :: _ :: _ :: _ :: _ :: _ :: R) wr)
  case atStart => exact ⟨0, Nat.zero_le _, rfl, rfl, hs14⟩
  case round =>
    clear hs14
    obtain ⟨j, hj, hgk, rfl, hsr⟩ := hrel
    subst hgk
    obtain ⟨Ao, co, rfl, -, -⟩ := hsr.rd
    by_cases hlt : j < roots.length
    · obtain ⟨A', c', hv, -, hc⟩ := hr.use (hsr.sel [] 11)
      obtain ⟨ad, hA', hcell⟩ := rd_at hc j hlt
      obtain rfl : A = some ad := by
        have : A' = A := by injection hv with h1; exact h1.symm
        rw [← this]; exact hA'
      have hyl := hx _ (List.getElem_mem hlt)
      have HT := Lib.hid (show (roots.take (j + 1)).map (mvL to) = (roots.take j).map (mvL to) ++ [mvL to roots[j]] by rw [List.take_succ_eq_append_getElem hlt, List.map_append]; rfl)
      have HLJ := Lib.hid (show ((roots.take j).map (mvL to)).length = j by simp; omega)
      clear hc hv hA'
      generalize (roots.take j).map (mvL to) = os at *
      generalize roots[j] = r at *
      have kt0 : wr.cell? ⟨kb + 1 + 1, 0, none⟩ = some (.slice (some ⟨kb + 1, 0, none⟩) hs.length hs.length) := (hsr.pull 4).cell 0
      have km0 : wr.cell? ⟨kb + 1 + 1 + 1, 0, none⟩ = some (.func (.func 50) #[] #[.pointer (some ⟨kb + 1 + 1, 0, none⟩)]) := (hsr.pull 3).cell 0
      have hwr := lay1_walk wr (kb + 1 + 1) _ to kt0 (hsr.pull 2).rd r (by have := HTL.out; omega) (by have := HTL.out; omega) tb
      generalize mvL to r = z at *
      have hsa := hsr.alloc (.cells #[.int .u32 (z : Nat)] 32)
      clear kt0
      go_wp2_with fail
      refine hwr.mono ?_
      rintro e w' ⟨rfl, rfl⟩
      go_wp2_with (first | (at_builtin; go_loud (refine wpList_app rfl _ _ rfl Tryd.underlying29 infoU32 rfl (hsa.pull 1) rfl (ys := [z]) rfl (hsa.rd_blk (ys := [z]) 1 1 rfl rfl (by decide)) (by have := HLJ.out; simp; omega) (by have := HLJ.out; simp; omega) ?_); intro vo' w7 hs15))
      go_roundg (roots.length - (j + 1))
      case measure => omega
      case rel => exact ⟨j + 1, by omega, rfl, by go_num, by rw [HT.out]; exact hs15.sel [0, 2, 3, 4, 5, 6, 7, 8, 9, 10, 11] 1⟩
    · obtain rfl : j = roots.length := by omega
      have HE := Lib.hid (show roots.map (mvL to) = (roots.take roots.length).map (mvL to) by rw [List.take_length])
      generalize (roots.take roots.length).map (mvL to) = os at *
      go_wp2_with fail
      go_ret2
      refine ⟨_, rfl, ?_⟩
      rw [HM.out]
      simp only
      rw [HE.out]
      exact hsr.sel [0, 1] 9
end Go.Proofs.YtjllogellpfpkaaDoor
