/- Cone, Inputs, Nodes, Node, New. -/
import Derived.Test.YtjllogellpfpkaaDoorAigG
import Derived.Test.YtjllogellpfpkaaDoorAigO
import Derived.Laws.Bits64
import Derived.Laws.Bits64b
set_option linter.unusedVariables false
set_option linter.unusedSimpArgs false
namespace Go.Proofs.YtjllogellpfpkaaDoor
open Go Go.RowKit SL

theorem Cone_walk (w0 w : World) (l : List HP) (g : Nat) (ns : Nodes) (h : SL.St w0 (Graph g ns :: l) w) (hw : Wf ns) (hl : ns.length ≤ 1073741824) (v : Value) (roots : List Nat) (hr : Ent l (Rd (cNat .u32) v roots)) (hx : ∀ y ∈ roots, y < 2 * ns.length) :
    Calls Tryd.prog 15 #[.pointer (some ⟨g, 0, none⟩), v] w fun e w' =>
      ∃ vo, e = .returned (.tuple #[vo, .int .i64 0]) ∧ SL.St w0 (Arr (cNat .i64) 3 vo (coneM ns roots) :: Graph g ns :: l) w' := by
  obtain ⟨vn, vi, bm, hs⟩ := St.graph h
  obtain ⟨An, cn, rfl, hmn, hrn⟩ := (hs.pull 1).rd
  have hg0 : w.cell? ⟨g, 0, none⟩ = some (.slice An ns.length cn) := hs.cell 0
  have hall : (roots.all fun y => decide (y / 2 < ns.length)) = true := by
    rw [List.all_eq_true]; intro y hy; have := hx y hy; simp; omega
  have hxb : ∀ y ∈ roots, y < 4294967296 := fun y hy => by have := hx y hy; omega
  have hrw := hr.use h.drop
  clear hs hrn
  go_enter Tryd.func15, Tryd.ntmps15
  go_wp2_with (first | (go_at_call 46; refine (may_walk _ _ _ _ _ _ roots hg0 hl hrw hxb).mono ?_; rintro e w' ⟨rfl, rfl⟩; rw [hall]) | (go_at_call 47; refine (cone_walk w0 _ l g ns h hw hl v roots hr hx).mono ?_; rintro e w1 ⟨vo, rfl, hs1⟩))
  go_ret2
  exact ⟨_, rfl, hs1⟩

theorem Inputs_walk (w0 w : World) (l : List HP) (g : Nat) (ns : Nodes) (h : SL.St w0 (Graph g ns :: l) w) :
    Calls Tryd.prog 17 #[.pointer (some ⟨g, 0, none⟩)] w fun e w' => w = w' ∧ e = .returned (.int .i64 (inputsOf ns).length) := by
  obtain ⟨vn, vi, bm, hs⟩ := St.graph h
  obtain ⟨Ai, ci, rfl, hmn, -⟩ := (hs.pull 3).rd
  have g2 : w.cell? ⟨g, 2, none⟩ = some (.slice Ai (inputsOf ns).length ci) := hs.cell 2
  go_enter Tryd.func17, Tryd.ntmps17
  go_wp2
  go_ret
  exact ⟨rfl, rfl⟩
theorem Nodes_walk (w0 w : World) (l : List HP) (g : Nat) (ns : Nodes) (h : SL.St w0 (Graph g ns :: l) w) :
    Calls Tryd.prog 37 #[.pointer (some ⟨g, 0, none⟩)] w fun e w' => w = w' ∧ e = .returned (.int .i64 ns.length) := by
  obtain ⟨vn, vi, bm, hs⟩ := St.graph h
  obtain ⟨Ai, ci, rfl, hmn, -⟩ := (hs.pull 1).rd
  have g0 : w.cell? ⟨g, 0, none⟩ = some (.slice Ai ns.length ci) := hs.cell 0
  go_enter Tryd.func37, Tryd.ntmps37
  go_wp2
  go_ret
  exact ⟨rfl, rfl⟩

theorem New_walk (w0 w : World) (l : List HP) (h : SL.St w0 l w) :
    Calls Tryd.prog 9 #[] w fun e w' => ∃ g, e = .returned (.pointer (some ⟨g, 0, none⟩)) ∧ SL.St w0 (Graph g [(0, 0)] :: l) w' := by
  have hmm : ∀ (t : TypeId) (w : World), (Instr.makeMap t none).run Tryd.prog w = .ok (.map (some w.heap.size)) (w.alloc (.map #[] 0)) := fun _ _ => rfl
  have hs := ((h.alloc (.cells #[.int .u32 0, .int .u32 0] 75)).alloc (.map #[] 0)).alloc (.cells #[.slice (some ⟨w.heap.size, 0, none⟩) 1 1, .map (some (w.heap.size + 1)), .slice none 0 0] 88 (0, 0))
  simp only [World.size_alloc] at hs
  go_enter Tryd.func9, Tryd.ntmps9
  go_wp2_with fail
  go_ret
  refine ⟨_, rfl, ?_⟩
  have h1 := (((hs.pull 2).arr_lit (d := cGate) (n := 1) (xs := [(0, 0)]) rfl rfl (by decide)).rows_nil (cNat .i64) 3).sel [2, 1, 3, 0]
  have h2 : SL.St w0 (Blk (w.heap.size + 1 + 1) (.cells #[.slice (some ⟨w.heap.size, 0, none⟩) 1 1, .map (some (w.heap.size + 1)), .slice none 0 0] 88 (0, 0)) :: Arr cGate 75 (.slice (some ⟨w.heap.size, 0, none⟩) 1 1) [(0, 0)] :: GMap (w.heap.size + 1) (gatesOf [(0, 0)]) :: Arr (cNat .i64) 3 (.slice none 0 0) (inputsOf [(0, 0)]) :: l) _ :=
    ((h1.pull 2).imp fun k p => (⟨_, _, p, rfl⟩ : GMap (w.heap.size + 1) (gatesOf [(0, 0)]) k)).sel [1, 2, 0, 3]
  exact St.mkGraph h2

/-- What a node is. -/
def nodeM (ns : Nodes) (n : Nat) : Nat × Nat × Nat := if n = 0 then (0, 0, 0) else if (ns.getD n (0, 0)).1 = mark then (1, (ns.getD n (0, 0)).2, 0) else (2, ns.getD n (0, 0))

theorem Node_walk (w0 w : World) (l : List HP) (g : Nat) (ns : Nodes) (h : SL.St w0 (Graph g ns :: l) w) (n : Nat) (hn : n < ns.length) (hl : ns.length ≤ 1073741824) :
    Calls Tryd.prog 34 #[.pointer (some ⟨g, 0, none⟩), .int .i64 (n : Nat)] w fun e w' =>
      e = .returned (.tuple #[.int .i64 (nodeM ns n).1, .agg #[.int .u32 (nodeM ns n).2.1, .int .u32 (nodeM ns n).2.2], .int .i64 0]) ∧ SL.St w0 (Graph g ns :: l) w' := by
  obtain ⟨vn, vi, bm, hs⟩ := St.graph h
  obtain ⟨gn, cn, rfl⟩ := (hs.pull 1).arr_form (by omega)
  have g0 : w.cell? ⟨g, 0, none⟩ = some (.slice (some ⟨gn, 0, none⟩) ns.length cn) := hs.cell 0
  have hng : ns[n]? = some ns[n] := List.getElem?_eq_getElem hn
  obtain ⟨n0, -⟩ := (SL.St.pull hs 1).arr_cell _ _ hng 0 _ rfl
  obtain ⟨n1, -⟩ := (SL.St.pull hs 1).arr_cell _ _ hng 1 _ rfl
  have hgd : ns.getD n (0, 0) = ns[n] := by simp [List.getD_eq_getElem?_getD, hn]
  have HM : nodeM ns n = if n = 0 then (0, 0, 0) else if ns[n].1 = mark then (1, ns[n].2, 0) else (2, ns[n]) := by unfold nodeM; rw [hgd]
  simp only [cGate, Nat.add_zero] at n0 n1
  generalize ns[n] = x at *
  obtain ⟨X, Y⟩ := x
  generalize nodeM ns n = M at *
  clear hng hgd
  simp only at *
  have HM := Lib.hid HM
  obtain ⟨r0, -⟩ := allocs g0
  obtain ⟨q0, -⟩ := allocs n0
  obtain ⟨q1, -⟩ := allocs n1
  by_cases h0 : n = 0
  · have e0 : ((n : Int) == 0) = true := by simp [h0]
    have H0 := Lib.hid h0; clear h0
    go_enter Tryd.func34, Tryd.ntmps34
    go_wp2_with fail
    simp [bodyPost, results, Tryd.results34, go_sem]
    have hM := HM.out; rw [if_pos H0.out] at hM; subst hM
    exact ⟨⟨rfl, rfl, rfl⟩, (h.alloc _).drop⟩
  have hpos : 0 < n := by omega
  rw [if_neg h0] at HM
  have ha := (h.alloc (.cells #[.int .u32 0, .int .u32 0] 75)).pull 0
  by_cases hX : X = mark
  · have e1 : ((X : Int) == 4294967295) = true := by simp [hX, mark]
    rw [if_pos hX] at HM
    have HX := Lib.hid hX; clear hX
    have r0' := Ext.rule (r0 (.cells #[.int .u32 0, .int .u32 0] 75))
    have r1' := Ext.rule (q1 (.cells #[.int .u32 0, .int .u32 0] 75))
    go_enter Tryd.func34, Tryd.ntmps34
    go_wp2_with fail
    -- region 8 of (*cadence/aig.Graph).Node: 0:move 1:nilCheck 2:fieldAddr 3:load 4:move 5:indexAddr 6:fieldAddr 7:load 8:build 9:assign 10:store 11:assign
    refine wp_region_plan (Ext (w.alloc (.cells #[.int .u32 0, .int .u32 0] 75))) [(0, 0), (1, 0), (2, 0), (3, 1), (4, 1), (5, 0), (6, 0), (7, 1), (8, 0), (9, 1)] 10 (by kernel_rfl) (by kernel_rfl) ?_
    have hx0 : Ext (w.alloc (.cells #[.int .u32 0, .int .u32 0] 75)) ((w.alloc (.cells #[.int .u32 0, .int .u32 0] 75))).drew := Ext.refl (w.alloc (.cells #[.int .u32 0, .int .u32 0] 75))
    iterate 3 (first | (refine plan_skip rfl rfl ?_; simp only [Act.put, List.setIfInBounds_toArray, List.set_cons_zero, List.set_cons_succ]) | (refine plan_pure (v := ?_) rfl rfl (fun _ => ?_) ?_; rotate_left; (focus (go_simp; try with_reducible rfl; done)); simp only [Act.put, List.setIfInBounds_toArray, List.set_cons_zero, List.set_cons_succ]))
    iterate 2 (first | (refine plan_held_skip rfl rfl (by assumption) ?_; simp only [Act.put, List.setIfInBounds_toArray, List.set_cons_zero, List.set_cons_succ]) | (refine plan_held (v := ?_) rfl rfl (fun _ hSw => ?_) (by assumption) ?_; rotate_left; (focus (go_simp; try with_reducible rfl; done)); simp only [Act.put, List.setIfInBounds_toArray, List.set_cons_zero, List.set_cons_succ]))
    iterate 2 (first | (refine plan_skip rfl rfl ?_; simp only [Act.put, List.setIfInBounds_toArray, List.set_cons_zero, List.set_cons_succ]) | (refine plan_pure (v := ?_) rfl rfl (fun _ => ?_) ?_; rotate_left; (focus (go_simp; try with_reducible rfl; done)); simp only [Act.put, List.setIfInBounds_toArray, List.set_cons_zero, List.set_cons_succ]))
    iterate 1 (first | (refine plan_held_skip rfl rfl (by assumption) ?_; simp only [Act.put, List.setIfInBounds_toArray, List.set_cons_zero, List.set_cons_succ]) | (refine plan_held (v := ?_) rfl rfl (fun _ hSw => ?_) (by assumption) ?_; rotate_left; (focus (go_simp; try with_reducible rfl; done)); simp only [Act.put, List.setIfInBounds_toArray, List.set_cons_zero, List.set_cons_succ]))
    iterate 1 (first | (refine plan_skip rfl rfl ?_; simp only [Act.put, List.setIfInBounds_toArray, List.set_cons_zero, List.set_cons_succ]) | (refine plan_pure (v := ?_) rfl rfl (fun _ => ?_) ?_; rotate_left; (focus (go_simp; try with_reducible rfl; done)); simp only [Act.put, List.setIfInBounds_toArray, List.set_cons_zero, List.set_cons_succ]))
    iterate 1 (first | (refine plan_held_skip rfl rfl (by assumption) ?_; simp only [Act.put, List.setIfInBounds_toArray, List.set_cons_zero, List.set_cons_succ]) | (refine plan_held (v := ?_) rfl rfl (fun _ hSw => ?_) (by assumption) ?_; rotate_left; (focus (go_simp; try with_reducible rfl; done)); simp only [Act.put, List.setIfInBounds_toArray, List.set_cons_zero, List.set_cons_succ]))
    refine plan_end ?_
    simp only [List.drop]
    go_wp2_with fail
    refine NoPanic.normal ?_
    go_wp2_with fail
    have c0 : (w.alloc (.cells #[.int .u32 (Y : Nat), .int .u32 0] 75)).drew.cell? ⟨w.heap.size, 0, none⟩ = some (.int .u32 (Y : Nat)) := (h.alloc _).drew.cell 0
    have c1 : (w.alloc (.cells #[.int .u32 (Y : Nat), .int .u32 0] 75)).drew.cell? ⟨w.heap.size, 1, none⟩ = some (.int .u32 0) := (h.alloc _).drew.cell 1
    simp [bodyPost, results, Tryd.results34, go_sem, c0, c1]
    have hM := HM.out; subst hM
    exact ⟨⟨rfl, rfl, rfl⟩, (h.alloc _).drew.drop⟩
  · have e1 : ((X : Int) == 4294967295) = false := by unfold mark at hX; simp; omega
    rw [if_neg hX] at HM
    have HX := Lib.hid hX; clear hX
    have r0' := Ext.rule (r0 (.cells #[.int .u32 0, .int .u32 0] 75))
    have r1' := Ext.rule (q0 (.cells #[.int .u32 0, .int .u32 0] 75))
    have r2' := Ext.rule (q1 (.cells #[.int .u32 0, .int .u32 0] 75))
    go_enter Tryd.func34, Tryd.ntmps34
    go_wp2_with fail
    -- region 9 of (*cadence/aig.Graph).Node: 0:move 1:nilCheck 2:fieldAddr 3:load 4:move 5:indexAddr 6:load 7:assign 8:store 9:assign
    refine wp_region_plan (Ext (w.alloc (.cells #[.int .u32 0, .int .u32 0] 75))) [(0, 0), (1, 0), (2, 0), (3, 1), (4, 1), (5, 0), (6, 1), (7, 1)] 8 (by kernel_rfl) (by kernel_rfl) ?_
    have hx0 : Ext (w.alloc (.cells #[.int .u32 0, .int .u32 0] 75)) ((w.alloc (.cells #[.int .u32 0, .int .u32 0] 75))).drew := Ext.refl (w.alloc (.cells #[.int .u32 0, .int .u32 0] 75))
    iterate 3 (first | (refine plan_skip rfl rfl ?_; simp only [Act.put, List.setIfInBounds_toArray, List.set_cons_zero, List.set_cons_succ]) | (refine plan_pure (v := ?_) rfl rfl (fun _ => ?_) ?_; rotate_left; (focus (go_simp; try with_reducible rfl; done)); simp only [Act.put, List.setIfInBounds_toArray, List.set_cons_zero, List.set_cons_succ]))
    iterate 2 (first | (refine plan_held_skip rfl rfl (by assumption) ?_; simp only [Act.put, List.setIfInBounds_toArray, List.set_cons_zero, List.set_cons_succ]) | (refine plan_held (v := ?_) rfl rfl (fun _ hSw => ?_) (by assumption) ?_; rotate_left; (focus (go_simp; try with_reducible rfl; done)); simp only [Act.put, List.setIfInBounds_toArray, List.set_cons_zero, List.set_cons_succ]))
    iterate 1 (first | (refine plan_skip rfl rfl ?_; simp only [Act.put, List.setIfInBounds_toArray, List.set_cons_zero, List.set_cons_succ]) | (refine plan_pure (v := ?_) rfl rfl (fun _ => ?_) ?_; rotate_left; (focus (go_simp; try with_reducible rfl; done)); simp only [Act.put, List.setIfInBounds_toArray, List.set_cons_zero, List.set_cons_succ]))
    iterate 2 (first | (refine plan_held_skip rfl rfl (by assumption) ?_; simp only [Act.put, List.setIfInBounds_toArray, List.set_cons_zero, List.set_cons_succ]) | (refine plan_held (v := ?_) rfl rfl (fun _ hSw => ?_) (by assumption) ?_; rotate_left; (focus (go_simp; try with_reducible rfl; done)); simp only [Act.put, List.setIfInBounds_toArray, List.set_cons_zero, List.set_cons_succ]))
    refine plan_end ?_
    simp only [List.drop]
    go_wp2_with fail
    refine NoPanic.normal ?_
    go_wp2_with fail
    have c0 : (w.alloc (.cells #[.int .u32 (X : Nat), .int .u32 (Y : Nat)] 75)).drew.cell? ⟨w.heap.size, 0, none⟩ = some (.int .u32 (X : Nat)) := (h.alloc _).drew.cell 0
    have c1 : (w.alloc (.cells #[.int .u32 (X : Nat), .int .u32 (Y : Nat)] 75)).drew.cell? ⟨w.heap.size, 1, none⟩ = some (.int .u32 (Y : Nat)) := (h.alloc _).drew.cell 1
    simp [bodyPost, results, Tryd.results34, go_sem, c0, c1]
    have hM := HM.out; subst hM
    exact ⟨⟨rfl, rfl, rfl⟩, (h.alloc _).drew.drop⟩

theorem sim1_walk (w : World) (kv : Nat) (v : Value) (vs : List Nat) (hk : w.cell? ⟨kv, 0, none⟩ = some v) (hr : Rd (cNat .u64) v vs w) (x : Nat) (hx : x < 2 * vs.length) (hl : vs.length ≤ 1073741824) (hb : ∀ y ∈ vs, y < 18446744073709551616) :
    Calls Tryd.prog 81 #[.int .u32 (x : Nat), .pointer (some ⟨kv, 0, none⟩)] w fun e w' => w = w' ∧ e = .returned (.int .u64 (wordOf vs x : Nat)) := by
  obtain ⟨A, c, rfl, -, hc⟩ := hr
  have hy : x / 2 < vs.length := by omega
  obtain ⟨ad, rfl, hcell⟩ := rd_at hc (x / 2) hy
  have hq : (x : Int) / 2 = ((x / 2 : Nat) : Int) := by omega
  have hm : (x : Int) % 2 = ((x % 2 : Nat) : Int) := by omega
  have HW := Lib.hid (show wordOf vs x = if x % 2 = 1 then 18446744073709551615 ^^^ vs[x / 2] else vs[x / 2] by
    unfold wordOf; rw [List.getD_eq_getElem?_getD, List.getElem?_eq_getElem hy]; rfl)
  have hzb := hb _ (List.getElem_mem hy)
  clear hc hb
  generalize hqq : x / 2 = q at *
  generalize hz : vs[q] = z at *
  generalize wordOf vs x = W at *
  clear hz hqq
  generalize hrr : x % 2 = r at *
  have HR := Lib.hid hrr; clear hrr
  by_cases h1 : r = 1
  · subst h1
    go_enter Tryd.func81, Tryd.ntmps81
    go_wp2_with fail
    go_ret
    have h3 := HW.out; rw [if_pos trivial] at h3; rw [h3, ← bits_xor_u64_nat _ _ (by decide) hzb]
    exact ⟨rfl, rfl⟩
  · have h2 : ((r : Int) == 1) = false := by simp; omega
    go_enter Tryd.func81, Tryd.ntmps81
    go_wp2_with fail
    go_ret
    have h3 := HW.out; rw [if_neg h1] at h3; rw [h3]
    exact ⟨rfl, rfl⟩
end Go.Proofs.YtjllogellpfpkaaDoor
