/- The circuits' graph in memory, and its small methods. -/
import Derived.Test.YtjllogellpfpkaaDoorRw
import Derived.Test.YtjllogellpfpkaaDoorAigM
import Derived.Test.YtjllogellpfpkaaDoorOrd
import Derived.Test.YtjllogellpfpkaaDoorProg
set_option linter.unusedVariables false
set_option linter.unusedSimpArgs false
namespace Go.Proofs.YtjllogellpfpkaaDoor
open Go Go.RowKit SL

/-- Two whole numbers of 32 bits in two cells. -/
def cGate : Cd (Nat × Nat) := ⟨2, fun p => [.int .u32 p.1, .int .u32 p.2], fun _ => rfl, by simp [Value.oneCell'], by decide⟩
def gKey (p : Nat × Nat) : Value := .agg #[.int .u32 p.1, .int .u32 p.2]
def GMap (b : Nat) (m : List ((Nat × Nat) × Nat)) : HP := fun h => ∃ es clock, h b = some (.map es clock) ∧ es.toList.map (fun e => (e.key, e.val)) = m.map fun (p, x) => (gKey p, Value.int .u32 x)
def Graph (g : Nat) (ns : List (Nat × Nat)) : HP := fun h => ∃ vn vi bm, All [Blk g (.cells #[vn, .map (some bm), vi] 88 (0, 0)), Arr cGate 75 vn ns, GMap bm (gatesOf ns), Arr (cNat .i64) 3 vi (inputsOf ns)] h

theorem St.graph {w0 w : World} {l : List HP} {g : Nat} {ns : List (Nat × Nat)} (h : St w0 (Graph g ns :: l) w) :
    ∃ vn vi bm, St w0 (Blk g (.cells #[vn, .map (some bm), vi] 88 (0, 0)) :: Arr cGate 75 vn ns :: GMap bm (gatesOf ns) :: Arr (cNat .i64) 3 vi (inputsOf ns) :: l) w := by
  obtain ⟨vn, h⟩ := SL.St.ex h
  obtain ⟨vi, h⟩ := SL.St.ex h
  obtain ⟨bm, h⟩ := SL.St.ex h
  exact ⟨vn, vi, bm, SL.St.flat h⟩
theorem St.mkGraph {w0 w : World} {l : List HP} {g : Nat} {ns : List (Nat × Nat)} {vn vi : Value} {bm : Nat}
    (h : St w0 (Blk g (.cells #[vn, .map (some bm), vi] 88 (0, 0)) :: Arr cGate 75 vn ns :: GMap bm (gatesOf ns) :: Arr (cNat .i64) 3 vi (inputsOf ns) :: l) w) : St w0 (Graph g ns :: l) w :=
  (SL.St.fold (l := [_, _, _, _]) h).imp fun _ p => ⟨vn, vi, bm, p⟩

theorem infoGate : (Tryd.prog.info? 75).map (fun i => (i.zero, i.size, i.bytes)) = some (some (.agg #[.int .u32 0, .int .u32 0]), 2, 8) := by kernel_rfl
theorem infoInt : (Tryd.prog.info? 3).map (fun i => (i.zero, i.size, i.bytes)) = some (some (.int .i64 0), 1, 8) := by kernel_rfl
theorem infoBool : (Tryd.prog.info? 4).map (fun i => (i.zero, i.size, i.bytes)) = some (some (.bool false), 1, 1) := by kernel_rfl
theorem infoU32 : (Tryd.prog.info? 32).map (fun i => (i.zero, i.size, i.bytes)) = some (some (.int .u32 0), 1, 4) := by kernel_rfl

theorem full_walk (w : World) (g : Nat) (A : Option Addr) (n c : Nat) (h : w.cell? ⟨g, 0, none⟩ = some (.slice A n c)) (hn : n < 1073741824) :
    Calls Tryd.prog 48 #[.pointer (some ⟨g, 0, none⟩)] w fun e w' => w = w' ∧ e = .returned (.bool false) := by
  go_enter Tryd.func48, Tryd.ntmps48
  go_wp2
  go_ret
  simp; omega

set_option maxHeartbeats 400000 in
theorem input_walk (w0 w : World) (l : List HP) (g : Nat) (ns : List (Nat × Nat)) (h : SL.St w0 (Graph g ns :: l) w) (hn : ns.length < 1073741824) :
    Calls Tryd.prog 18 #[.pointer (some ⟨g, 0, none⟩)] w fun e w' =>
      e = .returned (.tuple #[.int .u32 (2 * ns.length : Nat), .int .i64 0]) ∧ SL.St w0 (Graph g (ns ++ [(mark, (inputsOf ns).length)]) :: l) w' := by
  obtain ⟨vn, vi, bm, hs⟩ := St.graph h
  obtain ⟨An, cn, rfl, hmn, hrn⟩ := (hs.pull 1).rd
  obtain ⟨Ai, ci, rfl, hmi, hri⟩ := (hs.pull 3).rd
  have hil := inputsOf_length ns
  have hu : IntKind.u32.wrap (inputsOf ns).length = (inputsOf ns).length := IntWalk.u32_in _ (by omega)
  have g0 : w.cell? ⟨g, 0, none⟩ = some (.slice An ns.length cn) := hs.cell 0
  have g2 : w.cell? ⟨g, 2, none⟩ = some (.slice Ai (inputsOf ns).length ci) := hs.cell 2
  have r0 := Ext.rule g0
  have r2 := Ext.rule g2
  clear hrn hri
  go_enter Tryd.func18, Tryd.ntmps18
  go_wp2_with (go_at_call 48; refine (full_walk _ _ _ _ _ g0 hn).mono ?_; rintro e w' ⟨rfl, rfl⟩)
  -- region 6 of (*cadence/aig.Graph).Input: 0:move 1:move 2:nilCheck 3:fieldAddr 4:load 5:move 6:nilCheck 7:fieldAddr 8:load 9:call len 10:convert 11:build 12:buildSlice 13:call append 14:nilCheck 15:fieldAddr 16:store
  refine wp_region_plan (Ext w) [(0, 0), (1, 0), (2, 0), (3, 0), (4, 1), (5, 1), (6, 1), (7, 1), (8, 1), (9, 1), (10, 1), (11, 1), (12, 2)] 13 (by kernel_rfl) (by kernel_rfl) ?_
  have hx0 : Ext w w.drew := Ext.refl w
  iterate 4 (first | (refine plan_skip rfl rfl ?_; simp only [Act.put, List.setIfInBounds_toArray, List.set_cons_zero, List.set_cons_succ]) | (refine plan_pure (v := ?_) rfl rfl (fun _ => ?_) ?_; rotate_left; (focus (go_simp; try with_reducible rfl; done)); simp only [Act.put, List.setIfInBounds_toArray, List.set_cons_zero, List.set_cons_succ]))
  iterate 8 (first | (refine plan_held_skip rfl rfl (by assumption) ?_; simp only [Act.put, List.setIfInBounds_toArray, List.set_cons_zero, List.set_cons_succ]) | (refine plan_held (v := ?_) rfl rfl (fun _ hSw => ?_) (by assumption) ?_; rotate_left; (focus (go_simp; try with_reducible rfl; done)); simp only [Act.put, List.setIfInBounds_toArray, List.set_cons_zero, List.set_cons_succ]))
  ((refine plan_eff rfl (fun K hK => ?_)); go_simp; (refine hK _ _ ⟨by repeat (first | exact Ext.refl _ | apply Ext.drew | apply Ext.alloc), ?_⟩); clear hK K)
  -- (Ext behind op 12)
  refine plan_end ?_
  simp only [List.drop]
  go_wp2_with (first | (at_builtin; refine wpList_app rfl _ _ rfl Tryd.underlying85 infoGate rfl (((hs.alloc _).drew.pull 2)) rfl (ys := [(mark, (inputsOf ns).length)]) rfl ((hs.alloc _).drew.rd_blk _ _ rfl rfl (by decide)) (by simp; omega) (by simp; omega) ?_; intro v' w1 hs1; obtain ⟨An', cn', rfl, _, _⟩ := hs1.rd; have g0' : w1.cell? ⟨g, 0, none⟩ = some (.slice An ns.length cn) := (hs1.pull 2).cell 0; have f0' := (hs1.pull 2).free 0))
  have hs2 := ((hs1.pull 2).set 0 (.slice An' (ns.length + 1) cn')).sel [0, 1, 3, 4] 1
  generalize w1.setCell _ _ = w2 at hs2 ⊢
  clear g0' f0' r0 r2 g0 g2 hx0
  have g2 : w2.cell? ⟨g, 2, none⟩ = some (.slice Ai (inputsOf ns).length ci) := hs2.cell 2
  have r2 := Ext.rule g2
  refine NoPanic.normal ?_
  go_wp2_with (first | (at_builtin; refine wpList_app rfl _ _ rfl Tryd.underlying23 infoInt rfl ((hs2.alloc _).pull 4) rfl (ys := [ns.length]) rfl ((hs2.alloc _).rd_blk _ _ rfl rfl (by decide)) (by simp; omega) (by simp; omega) ?_; intro v'' w3 hs3; obtain ⟨Ai', ci', rfl, _, _⟩ := hs3.rd; have g2' : w3.cell? ⟨g, 2, none⟩ = some (.slice Ai (inputsOf ns).length ci) := (hs3.pull 2).cell 2; have f2' := (hs3.pull 2).free 2))
  have hs4 := ((hs3.pull 2).set 2 (.slice Ai' ((inputsOf ns).length + 1) ci')).sel [0, 3, 4, 1] 1
  go_ret2
  refine ⟨by simp, St.mkGraph (vn := .slice An' (ns.length + 1) cn') (vi := .slice Ai' ((inputsOf ns).length + 1) ci') (bm := bm) ?_⟩
  rw [inputsOf_snoc_mark, gatesOf_snoc_mark]
  simp only [List.length_append, List.length_singleton] at hs4
  exact hs4
end Go.Proofs.YtjllogellpfpkaaDoor
