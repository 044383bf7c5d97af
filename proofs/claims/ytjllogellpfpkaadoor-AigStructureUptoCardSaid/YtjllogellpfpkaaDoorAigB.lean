/- And: of two literals. -/
import Derived.Test.YtjllogellpfpkaaDoorAigA
import Derived.Test.YtjllogellpfpkaaDoorAigMap
set_option linter.unusedVariables false
set_option linter.unusedSimpArgs false
namespace Go.Proofs.YtjllogellpfpkaaDoor
open Go Go.RowKit SL

theorem not_walk (w : World) (l : Nat) (h : l < 4294967296) :
    Calls Tryd.prog 72 #[.int .u32 (l : Nat)] w fun e w' => w = w' ∧ e = .returned (.int .u32 (notL l : Nat)) := by
  go_enter Tryd.func72, Tryd.ntmps72
  go_wp2
  go_ret
  refine ⟨rfl, ?_⟩
  have := u32_xor_nat l 1 h (by omega)
  rw [xor_one, show ((1 : Nat) : Int) = 1 from rfl] at this
  simp [this]

theorem St.gmap {w0 w : World} {l : List HP} {b : Nat} {m : List ((Nat × Nat) × Nat)} (h : SL.St w0 (GMap b m :: l) w) : ∃ es clock, w.heap[b]? = some (.map es clock) ∧
    es.toList.map (fun e => (e.key, e.val)) = m.map (fun (q, x) => (gKey q, Value.int .u32 (x : Nat))) := by
  obtain ⟨k, ⟨es, clock, hb, he⟩, q⟩ := h.head
  exact ⟨es, clock, q _ _ hb, he⟩
theorem St.gmapBlk {w0 w : World} {l : List HP} {b : Nat} {m : List ((Nat × Nat) × Nat)} (h : SL.St w0 (GMap b m :: l) w) : ∃ es clock,
    es.toList.map (fun e => (e.key, e.val)) = m.map (fun (q, x) => (gKey q, Value.int .u32 (x : Nat))) ∧ SL.St w0 (Blk b (.map es clock) :: l) w := by
  obtain ⟨es, h⟩ := SL.St.ex h
  obtain ⟨clock, h⟩ := SL.St.ex h
  obtain ⟨h1, h2⟩ := SL.St.pure (φ := es.toList.map (fun e => (e.key, e.val)) = m.map (fun (q, x) => (gKey q, Value.int .u32 (x : Nat)))) (P := Blk b (.map es clock)) (h.imp fun _ ⟨p, q⟩ => ⟨q, p⟩)
  exact ⟨es, clock, h1, h2⟩
theorem and_end {w0 w : World} {l : List HP} {g : Nat} {ns ns' : List (Nat × Nat)} {a b x : Nat} (h : andM ns a b = (x, ns')) {v : Value} (hv : v = .int .u32 (x : Nat)) (hs : SL.St w0 (Graph g ns' :: l) w) :
    Ending.returned v = .returned (.int .u32 ((andM ns a b).1 : Nat)) ∧ SL.St w0 (Graph g (andM ns a b).2 :: l) w := by
  rw [h, hv]; exact ⟨rfl, hs⟩
set_option maxHeartbeats 400000 in
theorem and_walk (w0 w : World) (l : List HP) (g : Nat) (ns : List (Nat × Nat)) (h : SL.St w0 (Graph g ns :: l) w) (hn : ns.length < 1073741824) (h0 : ns.length ≠ 0) (a b : Nat) (ha : a < 4294967295) (hb : b < 4294967295) :
    Calls Tryd.prog 53 #[.pointer (some ⟨g, 0, none⟩), .int .u32 (a : Nat), .int .u32 (b : Nat)] w fun e w' =>
      e = .returned (.int .u32 ((andM ns a b).1 : Nat)) ∧ SL.St w0 (Graph g (andM ns a b).2 :: l) w' := by
  have f : ∀ {x y : Nat}, x ≠ y → ((x : Int) == (y : Int)) = false := fun h => by simp; omega
  by_cases a0 : a = 0
  · subst a0
    go_enter Tryd.func53, Tryd.ntmps53
    go_wp2
    go_ret; exact and_end (andM_0 (.inl rfl)) (by simp) h
  have e1 : ((a : Int) == 0) = false := f a0
  by_cases b0 : b = 0
  · subst b0
    go_enter Tryd.func53, Tryd.ntmps53
    go_wp2
    go_ret; exact and_end (andM_0 (.inr (.inl rfl))) (by simp) h
  have e2 : ((b : Int) == 0) = false := f b0
  by_cases c0 : a = notL b
  · have e3 : ((a : Int) == (notL b : Nat)) = true := by simp [c0]
    clear f
    have C0 := Lib.hid c0; clear c0
    go_enter Tryd.func53, Tryd.ntmps53
    go_wp2_with (go_at_call 72; refine (not_walk _ _ (by omega)).mono ?_; rintro e w' ⟨rfl, rfl⟩)
    go_ret; exact and_end (andM_0 (.inr (.inr C0.out))) (by simp) h
  have e3 := f c0
  have hA : ¬ (a = 0 ∨ b = 0 ∨ a = notL b) := by omega
  have HA := Lib.hid hA
  clear a0 b0 c0 hA
  by_cases a1 : a = 1
  · have e4 : ((a : Int) == 1) = true := by simp [a1]
    have C1 := Lib.hid a1; clear a1
    clear f
    go_enter Tryd.func53, Tryd.ntmps53
    go_wp2_with (go_at_call 72; refine (not_walk _ _ (by omega)).mono ?_; rintro e w' ⟨rfl, rfl⟩)
    go_ret; exact and_end (andM_1 HA.out (.inl C1.out)) (by simp) h
  have e4 : ((a : Int) == 1) = false := f a1
  by_cases ab : a = b
  · have e5 : ((a : Int) == (b : Int)) = true := by simp [ab]
    have C1 := Lib.hid ab; clear ab
    clear f
    go_enter Tryd.func53, Tryd.ntmps53
    go_wp2_with (go_at_call 72; refine (not_walk _ _ (by omega)).mono ?_; rintro e w' ⟨rfl, rfl⟩)
    go_ret; exact and_end (andM_1 HA.out (.inr C1.out)) (by simp) h
  have e5 := f ab
  have HB := Lib.hid (show ¬ (a = 1 ∨ a = b) by omega)
  clear a1 ab
  by_cases b1 : b = 1
  · have e6 : ((b : Int) == 1) = true := by simp [b1]
    have C1 := Lib.hid b1; clear b1
    clear f
    go_enter Tryd.func53, Tryd.ntmps53
    go_wp2_with (go_at_call 72; refine (not_walk _ _ (by omega)).mono ?_; rintro e w' ⟨rfl, rfl⟩)
    go_ret; exact and_end (andM_2 HA.out HB.out C1.out) (by simp) h
  have e6 : ((b : Int) == 1) = false := f b1
  have HC := Lib.hid b1
  have hM := Lib.hid (andM_3 (ns := ns) HA.out HB.out b1)
  clear b1 f
  obtain ⟨vn, vi, bm, hs⟩ := St.graph h
  obtain ⟨An, cn, rfl, hmn, hrn⟩ := (hs.pull 1).rd
  obtain ⟨Ai, ci, rfl, hmi, hri⟩ := (hs.pull 3).rd
  clear hrn hri
  go_enter Tryd.func53, Tryd.ntmps53
  go_wp2_with (go_at_call 72; refine (not_walk _ _ (by omega)).mono ?_; rintro e w' ⟨rfl, rfl⟩)
  have hs1 := hs.alloc (.cells #[.int .u32 (a : Nat), .int .u32 (b : Nat)] 75)
  generalize hk : w.heap.size = k at hs1 ⊢
  generalize w.alloc _ = w1 at hs1 ⊢
  clear hk e1 e2 e3 e4 e5 e6 h hs
  obtain ⟨es, clock, hbm, hes⟩ := St.gmap (hs1.pull 3)
  have g0 : w1.cell? ⟨g, 0, none⟩ = some (.slice An ns.length cn) := (hs1.pull 1).cell 0
  have g1 : w1.cell? ⟨g, 1, none⟩ = some (.map (some bm)) := (hs1.pull 1).cell 1
  have k0 : w1.cell? ⟨k, 0, none⟩ = some (.int .u32 (a : Nat)) := hs1.cell 0
  have k1 : w1.cell? ⟨k, 1, none⟩ = some (.int .u32 (b : Nat)) := hs1.cell 1
  have r1 := Ext.rule g1
  have q0 := Ext.rule k0
  have q1 := Ext.rule k1
  have hlook := fun w' (x : Ext w1 w') => run_gate_lookup (a, b) w' bm (gatesOf ns) es clock (x _ _ hbm) hes
  unfold gKey at hlook
  cases hl : lookIn (a, b) (gatesOf ns) 0 with
  | some y =>
    obtain ⟨i, x⟩ := y
    rw [hl] at hlook
    have HL := Lib.hid hl
    simp only [Option.map_some, Option.getD_some, Option.isSome_some] at hlook
    clear hl hbm hes
    -- region 8 of (*cadence/aig.Graph).and: 0:move 1:nilCheck 2:fieldAddr 3:load 4:load 5:lookup 6:move 7:extract 8:extract 9:assign 10:assign
    refine wp_region_plan (Ext w1) [(0, 0), (1, 0), (2, 0), (3, 1), (4, 1), (5, 1), (6, 0), (7, 0), (8, 0)] 9 (by kernel_rfl) (by kernel_rfl) ?_
    have hx0 : Ext w1 w1.drew := Ext.refl w1
    iterate 3 (first | (refine plan_skip rfl rfl ?_; simp only [Act.put, List.setIfInBounds_toArray, List.set_cons_zero, List.set_cons_succ]) | (refine plan_pure (v := ?_) rfl rfl (fun _ => ?_) ?_; rotate_left; (focus (go_simp; try with_reducible rfl; done)); simp only [Act.put, List.setIfInBounds_toArray, List.set_cons_zero, List.set_cons_succ]))
    iterate 3 (first | (refine plan_held_skip rfl rfl (by assumption) ?_; simp only [Act.put, List.setIfInBounds_toArray, List.set_cons_zero, List.set_cons_succ]) | (refine plan_held (v := ?_) rfl rfl (fun _ hSw => ?_) (by assumption) ?_; rotate_left; (focus (go_simp; try with_reducible rfl; done)); simp only [Act.put, List.setIfInBounds_toArray, List.set_cons_zero, List.set_cons_succ]))
    iterate 3 (first | (refine plan_skip rfl rfl ?_; simp only [Act.put, List.setIfInBounds_toArray, List.set_cons_zero, List.set_cons_succ]) | (refine plan_pure (v := ?_) rfl rfl (fun _ => ?_) ?_; rotate_left; (focus (go_simp; try with_reducible rfl; done)); simp only [Act.put, List.setIfInBounds_toArray, List.set_cons_zero, List.set_cons_succ]))
    refine plan_end ?_
    simp only [List.drop]
    go_wp2_with (refine NoPanic.normal ?_)
    go_ret
    refine and_end (hM.out.trans (by rw [HL.out])) (by simp) (St.mkGraph (hs1.drew.sel [1, 2, 3, 4] 1))
  | none =>
    rw [hl] at hlook
    have HL := Lib.hid hl
    simp only [Option.map_none, Option.getD_none, Option.isSome_none] at hlook
    clear hl hbm hes
    -- region 8 of (*cadence/aig.Graph).and: 0:move 1:nilCheck 2:fieldAddr 3:load 4:load 5:lookup 6:move 7:extract 8:extract 9:assign 10:assign
    refine wp_region_plan (Ext w1) [(0, 0), (1, 0), (2, 0), (3, 1), (4, 1), (5, 1), (6, 0), (7, 0), (8, 0)] 9 (by kernel_rfl) (by kernel_rfl) ?_
    have hx0 : Ext w1 w1.drew := Ext.refl w1
    iterate 3 (first | (refine plan_skip rfl rfl ?_; simp only [Act.put, List.setIfInBounds_toArray, List.set_cons_zero, List.set_cons_succ]) | (refine plan_pure (v := ?_) rfl rfl (fun _ => ?_) ?_; rotate_left; (focus (go_simp; try with_reducible rfl; done)); simp only [Act.put, List.setIfInBounds_toArray, List.set_cons_zero, List.set_cons_succ]))
    iterate 3 (first | (refine plan_held_skip rfl rfl (by assumption) ?_; simp only [Act.put, List.setIfInBounds_toArray, List.set_cons_zero, List.set_cons_succ]) | (refine plan_held (v := ?_) rfl rfl (fun _ hSw => ?_) (by assumption) ?_; rotate_left; (focus (go_simp; try with_reducible rfl; done)); simp only [Act.put, List.setIfInBounds_toArray, List.set_cons_zero, List.set_cons_succ]))
    iterate 3 (first | (refine plan_skip rfl rfl ?_; simp only [Act.put, List.setIfInBounds_toArray, List.set_cons_zero, List.set_cons_succ]) | (refine plan_pure (v := ?_) rfl rfl (fun _ => ?_) ?_; rotate_left; (focus (go_simp; try with_reducible rfl; done)); simp only [Act.put, List.setIfInBounds_toArray, List.set_cons_zero, List.set_cons_succ]))
    refine plan_end ?_
    simp only [List.drop]
    have hs2 := hs1.drew
    have g0' : w1.drew.cell? ⟨g, 0, none⟩ = some (.slice An ns.length cn) := g0
    go_wp2_with (first | (refine NoPanic.normal ?_) | (go_at_call 48; refine (full_walk _ _ _ _ _ g0' hn).mono ?_; rintro e w' ⟨rfl, rfl⟩))
    generalize w1.drew = w2 at hs2 g0' ⊢
    clear g0 g1 k0 k1 r1 q0 q1 hlook hx0 hs1 w1
    have k0 : w2.cell? ⟨k, 0, none⟩ = some (.int .u32 (a : Nat)) := hs2.cell 0
    have k1 : w2.cell? ⟨k, 1, none⟩ = some (.int .u32 (b : Nat)) := hs2.cell 1
    have r0 := Ext.rule g0'
    have q0 := Ext.rule k0
    have q1 := Ext.rule k1
    -- region 14 of (*cadence/aig.Graph).and: 0:move 1:move 2:nilCheck 3:fieldAddr 4:load 5:load 6:buildSlice 7:call append 8:nilCheck 9:fieldAddr 10:store
    refine wp_region_plan (Ext w2) [(0, 0), (1, 0), (2, 0), (3, 0), (4, 1), (5, 1), (6, 2)] 7 (by kernel_rfl) (by kernel_rfl) ?_
    have hx0 : Ext w2 w2.drew := Ext.refl w2
    iterate 4 (first | (refine plan_skip rfl rfl ?_; simp only [Act.put, List.setIfInBounds_toArray, List.set_cons_zero, List.set_cons_succ]) | (refine plan_pure (v := ?_) rfl rfl (fun _ => ?_) ?_; rotate_left; (focus (go_simp; try with_reducible rfl; done)); simp only [Act.put, List.setIfInBounds_toArray, List.set_cons_zero, List.set_cons_succ]))
    iterate 2 (first | (refine plan_held_skip rfl rfl (by assumption) ?_; simp only [Act.put, List.setIfInBounds_toArray, List.set_cons_zero, List.set_cons_succ]) | (refine plan_held (v := ?_) rfl rfl (fun _ hSw => ?_) (by assumption) ?_; rotate_left; (focus (go_simp; try with_reducible rfl; done)); simp only [Act.put, List.setIfInBounds_toArray, List.set_cons_zero, List.set_cons_succ]))
    ((refine plan_eff rfl (fun K hK => ?_)); go_simp; (refine hK _ _ ⟨by repeat (first | exact Ext.refl _ | apply Ext.drew | apply Ext.alloc), ?_⟩); clear hK K)
    -- (Ext behind op 6)
    refine plan_end ?_
    simp only [List.drop]
    go_wp2_with (first | (at_builtin; refine wpList_app rfl _ _ rfl Tryd.underlying85 infoGate rfl ((hs2.alloc _).drew.pull 3) rfl (ys := [(a, b)]) rfl ((hs2.alloc _).drew.rd_blk _ _ rfl rfl (by decide)) (by simp; omega) (by simp; omega) ?_; intro v' w3 hs3; obtain ⟨An', cn', rfl, -, -⟩ := hs3.rd; have g0'' : w3.cell? ⟨g, 0, none⟩ = some (.slice An ns.length cn) := (hs3.pull 3).cell 0; have f0 := (hs3.pull 3).free 0))
    simp only [List.length_append, List.length_singleton] at hs3
    have hs4 := ((hs3.pull 3).set 0 (.slice An' (ns.length + 1) cn')).sel [3, 0, 1, 4, 5] 1
    generalize w3.setCell _ _ = w4 at hs4 ⊢
    clear g0' g0'' f0 k0 k1 r0 q0 q1 hx0 hs2 hs3 w3
    have g1 : w4.cell? ⟨g, 1, none⟩ = some (.map (some bm)) := (hs4.pull 1).cell 1
    have k0 : w4.cell? ⟨k, 0, none⟩ = some (.int .u32 (a : Nat)) := hs4.cell 0
    have k1 : w4.cell? ⟨k, 1, none⟩ = some (.int .u32 (b : Nat)) := hs4.cell 1
    have r1 := Ext.rule g1
    have q0 := Ext.rule k0
    have q1 := Ext.rule k1
    refine NoPanic.normal ?_
    go_wp2_with fail
    -- region 15 of (*cadence/aig.Graph).and: 0:move 1:nilCheck 2:fieldAddr 3:load 4:load 5:move 6:mapUpdate
    refine wp_region_plan (Ext w4) [(0, 0), (1, 0), (2, 0), (3, 1), (4, 1), (5, 1)] 6 (by kernel_rfl) (by kernel_rfl) ?_
    have hx0 : Ext w4 w4.drew := Ext.refl w4
    iterate 3 (first | (refine plan_skip rfl rfl ?_; simp only [Act.put, List.setIfInBounds_toArray, List.set_cons_zero, List.set_cons_succ]) | (refine plan_pure (v := ?_) rfl rfl (fun _ => ?_) ?_; rotate_left; (focus (go_simp; try with_reducible rfl; done)); simp only [Act.put, List.setIfInBounds_toArray, List.set_cons_zero, List.set_cons_succ]))
    iterate 3 (first | (refine plan_held_skip rfl rfl (by assumption) ?_; simp only [Act.put, List.setIfInBounds_toArray, List.set_cons_zero, List.set_cons_succ]) | (refine plan_held (v := ?_) rfl rfl (fun _ hSw => ?_) (by assumption) ?_; rotate_left; (focus (go_simp; try with_reducible rfl; done)); simp only [Act.put, List.setIfInBounds_toArray, List.set_cons_zero, List.set_cons_succ]))
    refine plan_end ?_
    simp only [List.drop]
    obtain ⟨es', clock', hes', hs5⟩ := St.gmapBlk (hs4.drew.pull 3)
    have hupd : (Instr.mapUpdate 86 (.map (some bm)) (.agg #[.int .u32 (a : Nat), .int .u32 (b : Nat)]) (.int .u32 (2 * (ns.length : Int)))).run Tryd.prog w4.drew = _ :=
      run_gate_update (a, b) (2 * ns.length) w4.drew bm (gatesOf ns) es' clock' hs5.blk hes' HL.out
    clear k0 k1 r1 q0 q1 hx0 g1
    go_wp2_with (refine NoPanic.normal ?_)
    go_ret
    have hs6 := hs5.setObj (.map (es'.push { key := gKey (a, b), val := .int .u32 ((2 * ns.length : Nat) : Int), born := clock' }) (clock' + 1))
    refine and_end (hM.out.trans (by rw [HL.out])) (by simp) (St.mkGraph (vn := .slice An' (ns.length + 1) cn') (vi := .slice Ai (inputsOf ns).length ci) (bm := bm) ?_)
    have hm : (a, b).1 ≠ mark := by show a ≠ mark; unfold mark; omega
    rw [gatesOf_snoc ns (a, b) hm h0, inputsOf_snoc ns (a, b) hm]
    refine (SL.St.imp (P' := GMap bm (gatesOf ns ++ [((a, b), 2 * ns.length)])) ?_ hs6).sel [2, 3, 0, 4] 1
    intro h' hb'
    exact ⟨_, _, hb', by simp [hes']⟩
end Go.Proofs.YtjllogellpfpkaaDoor
