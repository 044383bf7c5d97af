/- The reference's graph in memory: New, Input, May. -/
import Derived.Test.YtjeopmiopinlgaaTsM
set_option linter.unusedVariables false
set_option linter.unusedSimpArgs false
namespace Go.Proofs.Ytjeopmiopinlgaa
open Go Go.RowKit SL

def cNode : Cd (Nat × Nat × Nat) := ⟨3, fun p => [.int .i64 p.1, .int .u32 p.2.1, .int .u32 p.2.2], fun _ => rfl, by simp [Value.oneCell'], by decide⟩
def RGraph (r : Nat) (L : List (Nat × Nat × Nat)) (n : Nat) : HP := fun h => ∃ vL, All [Blk r (.cells #[vL, .int .i64 (n : Nat)] 46 (0, 0)), Arr cNode 111 vL L] h
theorem St.rgraph {w0 w : World} {l : List HP} {r n : Nat} {L : List (Nat × Nat × Nat)} (h : SL.St w0 (RGraph r L n :: l) w) :
    ∃ vL, SL.St w0 (Blk r (.cells #[vL, .int .i64 (n : Nat)] 46 (0, 0)) :: Arr cNode 111 vL L :: l) w := by
  obtain ⟨vL, h⟩ := SL.St.ex h
  exact ⟨vL, SL.St.flat h⟩
theorem St.mkR {w0 w : World} {l : List HP} {r n : Nat} {L : List (Nat × Nat × Nat)} {vL : Value}
    (h : SL.St w0 (Blk r (.cells #[vL, .int .i64 (n : Nat)] 46 (0, 0)) :: Arr cNode 111 vL L :: l) w) : SL.St w0 (RGraph r L n :: l) w :=
  (SL.St.fold (l := [_, _]) h).imp fun _ p => ⟨vL, p⟩
theorem infoNode : (Try.prog.info? 111).map (fun i => (i.zero, i.size, i.bytes)) = some (some (.agg #[.int .i64 0, .int .u32 0, .int .u32 0]), 3, 16) := by kernel_rfl

theorem rnew_walk (w0 w : World) (l : List HP) (h : SL.St w0 l w) :
    Calls Try.prog 33 #[] w fun e w' => ∃ r, e = .returned (.pointer (some ⟨r, 0, none⟩)) ∧ SL.St w0 (RGraph r [(0, 0, 0)] 0 :: l) w' := by
  have hs := (h.alloc (.cells #[.int .i64 0, .int .u32 0, .int .u32 0] 111)).alloc (.cells #[.slice (some ⟨w.heap.size, 0, none⟩) 1 1, .int .i64 0] 46 (0, 0))
  simp only [World.size_alloc] at hs
  go_enter Try.func33, Try.ntmps33
  go_wp2_with fail
  go_ret
  exact ⟨_, rfl, St.mkR (((hs.pull 1).arr_lit (d := cNode) (n := 1) (xs := [(0, 0, 0)]) rfl rfl (by decide)).swap)⟩

theorem rmay_walk (w0 w : World) (l : List HP) (r n : Nat) (L : List (Nat × Nat × Nat)) (h : SL.St w0 (RGraph r L n :: l) w) (x : Nat) (hx : x < 4294967296) :
    Calls Try.prog 61 #[.pointer (some ⟨r, 0, none⟩), .int .u32 (x : Nat)] w fun e w' => w = w' ∧ e = .returned (.bool (decide (x / 2 < L.length))) := by
  obtain ⟨vL, hs⟩ := St.rgraph h
  obtain ⟨A, c, rfl, hm, -⟩ := (hs.pull 1).rd
  have g0 : w.cell? ⟨r, 0, none⟩ = some (.slice A L.length c) := hs.cell 0
  have hq : (x : Int) / 2 = ((x / 2 : Nat) : Int) := by omega
  generalize x / 2 = q at *
  go_enter Try.func61, Try.ntmps61
  go_wp2
  go_ret
  exact ⟨rfl, rfl⟩

set_option maxHeartbeats 1000000 in
theorem rinput_walk (w0 w : World) (l : List HP) (r n : Nat) (L : List (Nat × Nat × Nat)) (h : SL.St w0 (RGraph r L n :: l) w) (hL : L.length < 1073741824) (hn : n < 1073741824) :
    Calls Try.prog 35 #[.pointer (some ⟨r, 0, none⟩)] w fun e w' =>
      e = .returned (.tuple #[.int .u32 (2 * L.length : Nat), .int .i64 0]) ∧ SL.St w0 (RGraph r (L ++ [(1, n, 0)]) (n + 1) :: l) w' := by
  obtain ⟨vL, hs⟩ := St.rgraph h
  obtain ⟨A, c, rfl, hm, -⟩ := (hs.pull 1).rd
  have g0 : w.cell? ⟨r, 0, none⟩ = some (.slice A L.length c) := hs.cell 0
  have g1 : w.cell? ⟨r, 1, none⟩ = some (.int .i64 (n : Nat)) := hs.cell 1
  have hu : IntKind.u32.wrap (n : Int) = (n : Int) := IntWalk.u32_in _ (by omega)
  have r0 := Ext.rule g0
  have r1 := Ext.rule g1
  go_enter Try.func35, Try.ntmps35
  go_wp2_with fail
  -- region 1 of (*cadence/cadenceref10.Graph).Input: 0:move 1:move 2:nilCheck 3:fieldAddr 4:load 5:move 6:nilCheck 7:fieldAddr 8:load 9:convert 10:build 11:buildSlice 12:call append 13:nilCheck 14:fieldAddr 15:store
  refine wp_region_plan (Ext w) [(0, 0), (1, 0), (2, 0), (3, 0), (4, 1), (5, 1), (6, 1), (7, 1), (8, 1), (9, 1), (10, 1), (11, 2)] 12 (by kernel_rfl) (by kernel_rfl) ?_
  have hx0 : Ext w w.drew := Ext.refl w
  iterate 4 (first | (refine plan_skip rfl rfl ?_; simp only [Act.put, List.setIfInBounds_toArray, List.set_cons_zero, List.set_cons_succ]) | (refine plan_pure (v := ?_) rfl rfl (fun _ => ?_) ?_; rotate_left; (focus (go_simp; try with_reducible rfl; done)); simp only [Act.put, List.setIfInBounds_toArray, List.set_cons_zero, List.set_cons_succ]))
  iterate 7 (first | (refine plan_held_skip rfl rfl (by assumption) ?_; simp only [Act.put, List.setIfInBounds_toArray, List.set_cons_zero, List.set_cons_succ]) | (refine plan_held (v := ?_) rfl rfl (fun _ hSw => ?_) (by assumption) ?_; rotate_left; (focus (go_simp; try with_reducible rfl; done)); simp only [Act.put, List.setIfInBounds_toArray, List.set_cons_zero, List.set_cons_succ]))
  ((refine plan_eff rfl (fun K hK => ?_)); go_simp; (refine hK _ _ ⟨by repeat (first | exact Ext.refl _ | apply Ext.drew | apply Ext.alloc), ?_⟩); clear hK K)
  -- (Ext behind op 11)
  refine plan_end ?_
  simp only [List.drop]
  go_wp2_with (first | (at_builtin; go_loud (refine wpList_app rfl _ _ rfl Try.underlying44 infoNode rfl (((hs.alloc _).drew.pull 2)) rfl (ys := [(1, n, 0)]) rfl ((hs.alloc _).drew.rd_blk (ys := [(1, n, 0)]) 1 1 rfl rfl (by decide)) (by simp; omega) (by simp; omega) ?_); intro v' w1 hs1; obtain ⟨An', cn', rfl, _, _⟩ := hs1.rd; have g0' : w1.cell? ⟨r, 0, none⟩ = some (.slice A L.length c) := (hs1.pull 2).cell 0; have f0' := (hs1.pull 2).free 0))
  have hs2 := ((hs1.pull 2).set 0 (.slice An' (L.length + 1) cn')).sel [0, 1] 1
  generalize w1.setCell _ _ = w2 at hs2 ⊢
  clear g0' f0' r0 r1 g0 g1 hx0
  have g0 : w2.cell? ⟨r, 0, none⟩ = some (.slice An' (L.length + 1) cn') := hs2.cell 0
  have g1 : w2.cell? ⟨r, 1, none⟩ = some (.int .i64 (n : Nat)) := hs2.cell 1
  have f1 := hs2.free 1
  refine NoPanic.normal ?_
  go_wp2_with fail
  go_ret2
  refine ⟨by simp, ?_⟩
  have hs3 := hs2.set 1 (.int .i64 ((n : Int) + 1))
  simp only [List.length_append, List.length_singleton] at hs3
  exact St.mkR (n := n + 1) hs3
end Go.Proofs.Ytjeopmiopinlgaa
