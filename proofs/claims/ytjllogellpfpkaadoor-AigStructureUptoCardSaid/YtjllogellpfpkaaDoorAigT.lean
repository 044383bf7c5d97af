/- live: the chapter's examples. -/
import Derived.Test.YtjllogellpfpkaaDoorAigS
set_option linter.unusedVariables false
set_option linter.unusedSimpArgs false
namespace Go.Proofs.YtjllogellpfpkaaDoor
open Go Go.RowKit SL

def nsA : Nodes := [(0, 0), (mark, 0)]
def nsB : Nodes := [(0, 0), (mark, 0), (mark, 1)]
def nsC : Nodes := [(0, 0), (mark, 0), (mark, 1), (2, 4)]
def nsD : Nodes := [(0, 0), (mark, 0), (mark, 1), (2, 4), (3, 5), (7, 9)]
theorem nsD_wf : Wf nsD := ⟨by decide, by decide⟩
theorem nsD_in : WfIn nsD := by unfold WfIn; decide
theorem live1 : andM nsB 2 4 = (6, nsC) := by decide
theorem live2 : xorM nsC 2 4 = (10, nsD) := by decide
theorem live3 : coneM nsD [10] = [1, 2, 3, 4, 5] := by decide
theorem live4 : evalM nsD [true, false] [6, 10, 11] = [false, true, false] := by decide

set_option maxRecDepth 100000 in
set_option maxHeartbeats 4000000 in
theorem live_walk (w0 w : World) (l : List HP) (h : SL.St w0 l w) :
    Calls Tryd.prog 10 #[] w fun e w' => e = .returned (.bool true) ∧ SL.St w0 l w' := by
  go_enter Tryd.func10, Tryd.ntmps10
  go_wp2_with fail
  refine (New_walk w0 w l h).mono ?_
  rintro e w1 ⟨g, rfl, hs1⟩
  have k1 : Calls Tryd.prog 18 #[.pointer (some ⟨g, 0, none⟩)] w1 fun e w' => e = .returned (.tuple #[.int .u32 2, .int .i64 0]) ∧ SL.St w0 (Graph g nsA :: l) w' := input_walk w0 _ _ g _ hs1 (by decide)
  go_wp2_with fail
  refine k1.mono ?_
  clear k1
  rintro e w2 ⟨rfl, hs2⟩
  have k1 : Calls Tryd.prog 18 #[.pointer (some ⟨g, 0, none⟩)] w2 fun e w' => e = .returned (.tuple #[.int .u32 4, .int .i64 0]) ∧ SL.St w0 (Graph g nsB :: l) w' := input_walk w0 _ _ g _ hs2 (by decide)
  go_wp2_with fail
  refine k1.mono ?_
  clear k1
  rintro e w3 ⟨rfl, hs3⟩
  have k1 : Calls Tryd.prog 29 #[.pointer (some ⟨g, 0, none⟩), .int .u32 2, .int .u32 4] w3 fun e w' => e = .returned (.tuple #[.int .u32 6, .int .i64 0]) ∧ SL.St w0 (Graph g nsC :: l) w' := by
    have k := And_walk w0 _ _ g _ hs3 (by decide) (by decide) 2 4 (by decide) (by decide)
    rw [live1] at k; exact k
  go_wp2_with fail
  refine k1.mono ?_
  clear k1
  rintro e w4 ⟨rfl, hs4⟩
  have k1 : Calls Tryd.prog 31 #[.pointer (some ⟨g, 0, none⟩), .int .u32 2, .int .u32 4] w4 fun e w' => e = .returned (.tuple #[.int .u32 10, .int .i64 0]) ∧ SL.St w0 (Graph g nsD :: l) w' := by
    have k := Xor_walk w0 _ _ g _ hs4 (by decide) (by decide) 2 4 (by decide) (by decide)
    rw [live2] at k; exact k
  go_wp2_with fail
  refine k1.mono ?_
  clear k1 hs1 hs2 hs3 hs4
  rintro e w5 ⟨rfl, hs5⟩
  have hs6 := hs5.alloc (.cells #[.int .u32 10] 32)
  go_wp2_with fail
  generalize w5.heap.size = kb at hs6 ⊢
  generalize w5.alloc _ = w6 at hs6 ⊢
  refine (Cone_walk w0 _ _ g _ hs6.swap nsD_wf (by decide) _ [10] (fun _ _ h => h.rd_blk (ys := [10]) 1 1 rfl rfl (by decide)) (by decide)).mono ?_
  rw [live3]
  rintro e w7 ⟨vc, rfl, hs7⟩
  have hs8 := (hs7.alloc (.cells #[.bool true, .bool false] 4)).alloc (.cells #[.int .u32 6, .int .u32 10, .int .u32 11] 32)
  simp only [World.size_alloc] at hs8
  have hbx : bits .xor .u32 10 1 = 11 := by kernel_rfl
  go_wp2_with fail
  generalize w7.heap.size = kc at hs8 ⊢
  generalize ((w7.alloc _).alloc _) = w8 at hs8 ⊢
  refine (Eval_walk w0 _ _ g _ (hs8.pull 3) nsD_wf nsD_in (by decide) _ [true, false] (Ent.tail (fun _ _ h => h.rd_blk (ys := [true, false]) 2 2 rfl rfl (by decide))) rfl _ [6, 10, 11] (fun _ _ h => h.rd_blk (ys := [6, 10, 11]) 3 3 rfl rfl (by decide)) (by decide) (by decide)).mono ?_
  rw [live4]
  rintro e w9 ⟨ve, rfl, hs9⟩
  have hs10 := hs9.alloc (.cells #[.int .i64 1, .int .i64 2, .int .i64 3, .int .i64 4, .int .i64 5] 3)
  go_wp2_with (first | (go_at_call 16; refine (no_walk _ 0 (by decide) (by decide)).mono ?_; rintro e w' ⟨rfl, rfl⟩))
  generalize w9.heap.size = kd at hs10 ⊢
  generalize w9.alloc _ = w10 at hs10 ⊢
  refine (sameInts_walk w0 _ _ hs10 _ _ [1, 2, 3, 4, 5] [1, 2, 3, 4, 5] (fun _ _ h => (h.pull 5).rd) (fun _ _ h => h.rd_blk (ys := [1, 2, 3, 4, 5]) 5 5 rfl rfl (by decide))).mono ?_
  rw [show decide (([1, 2, 3, 4, 5] : List Nat) = [1, 2, 3, 4, 5]) = true from rfl]
  rintro e w11 ⟨rfl, hs11⟩
  have hs12 := hs11.alloc (.cells #[.bool false, .bool true, .bool false] 4)
  go_wp2_with fail
  generalize w11.heap.size = ke at hs12 ⊢
  generalize w11.alloc _ = w12 at hs12 ⊢
  refine (sameBools_walk w0 _ _ hs12 _ _ [false, true, false] [false, true, false] (fun _ _ h => (h.pull 2).rd) (fun _ _ h => h.rd_blk (ys := [false, true, false]) 3 3 rfl rfl (by decide))).mono ?_
  rw [show decide (([false, true, false] : List Bool) = [false, true, false]) = true from rfl]
  rintro e w13 ⟨rfl, hs13⟩
  go_wp2_with fail
  go_ret
  exact ⟨rfl, hs13.sel [] 8⟩
end Go.Proofs.YtjllogellpfpkaaDoor
