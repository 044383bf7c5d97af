/- The chapter's example. -/
import Derived.Test.YtjeopmiopinlgaaTsU
import Derived.Test.YtjeopmiopinlgaaTsK
import Derived.Test.YtjeopmiopinlgaaTsQ
import Derived.Test.YtjeopmiopinlgaaTsS
set_option linter.unusedVariables false
set_option linter.unusedSimpArgs false
namespace Go.Proofs.Ytjeopmiopinlgaa
open Go Go.RowKit SL

def liveS : List Mk3 := [(1, 0, 0), (1, 0, 0), (0, 1, 2), (0, -4, 1)]
def liveN : Nodes := [(0, 0), (mark, 0), (mark, 1), (2, 4), (7, 2)]
theorem live_made : madeT liveS = (liveN, [0, 2, 4, 6, 8]) := by kernel_rfl
theorem live_cone : coneM liveN [8] = [1, 2, 3, 4] := by kernel_rfl
theorem live_enc : (clausesM liveN (encodeW liveN (coneM liveN [8])) [8]).length = 7 := by kernel_rfl
theorem live_pol : (clausesM liveN (polarW liveN [8]) [8]).length = 4 := by kernel_rfl
theorem live_fill : fillM liveN [true, false] [8] = [1, -1, -1, 1] := by kernel_rfl

set_option maxRecDepth 100000 in
set_option maxHeartbeats 8000000 in
theorem live_walk (w0 w : World) (l : List HP) (h : SL.St w0 l w) :
    Calls Try.prog 10 #[] w fun e w' => e = .returned (.bool true) ∧ SL.St w0 l w' := by
  have hgd : GoodG liveN := by have := (madeT_ok liveS (by decide)).good; rw [live_made] at this; exact this
  go_enter Try.func10, Try.ntmps10
  go_wp2_with fail
  have h1 := h.alloc (.cells #[.int .i64 1, .int .i64 0, .int .i64 0, .int .i64 1, .int .i64 0, .int .i64 0, .int .i64 0, .int .i64 1, .int .i64 2, .int .i64 0, .int .i64 (-4), .int .i64 1] 77)
  have hm := made_t w0 _ _ h1 (.slice (some ⟨w.heap.size, 0, none⟩) 4 4) liveS (fun _ _ h => h.rd_blk (d := cMade3) (ys := liveS) 4 4 rfl (by simp [Cd.all, cMade3, liveS]) (by decide)) (by simp [liveS, MkIn3, In64']) (by decide)
  rw [live_made] at hm
  simp only at hm
  refine hm.mono ?_
  rintro e w1 ⟨g, r, vo, rfl, h2⟩
  obtain ⟨gl, cl, rfl⟩ := h2.arr_form (by decide)
  have c4 := (h2.arr_cell1 rfl 4 8 rfl _ rfl).1
  clear h h1 hm
  go_wp2_with fail
  have h3 : SL.St w0 (Graph g liveN :: l) w1 := h2.sel [1] 3
  have h4 := (h3.alloc (.cells #[.int .u32 8] 42)).swap
  have cone := live_cone; have enc := live_enc; have pol := live_pol; have fil := live_fill
  have hroots : ∀ y ∈ [8], y < 2 * liveN.length := by decide
  have he := Encode_walk w0 _ _ g liveN h4 hgd.wf (by decide) (.slice (some ⟨w1.heap.size, 0, none⟩) 1 1) [8] (fun _ _ h => h.rd_blk (d := cNat .u32) (ys := [8]) 1 1 rfl (by simp [Cd.all, cNat]) (by decide)) hroots (by rw [enc]; decide) (by rw [cone]; decide)
  refine he.mono ?_
  rintro e w2 ⟨vf, vc, rfl, h5⟩
  obtain ⟨Af, cf, hv, _⟩ := h5.rd2.at
  rw [enc] at hv
  subst hv
  rw [cone] at h5 ⊢
  have h6 : SL.St w0 (Graph g liveN :: Arr (cNat .i64) 3 vc [1, 2, 3, 4] :: l) w2 := h5.sel [2, 1] 2
  clear h2 h3 h4 h5 he c4
  go_wp2_with fail
  have h7 := (SL.St.alloc (SL.St.alloc h6 (.cells #[.int .i64 4, .slice Af 7 cf] 33)) (.cells #[.int .u32 8] 42)).sel [2, 0, 1]
  simp only [World.size_alloc] at h7
  have hp := Polar_walk w0 _ _ g liveN h7 hgd.wf (by decide) (.slice (some ⟨w2.heap.size + 1, 0, none⟩) 1 1) [8] (fun _ _ h => h.rd_blk (d := cNat .u32) (ys := [8]) 1 1 rfl (by simp [Cd.all, cNat]) (by decide)) hroots (by rw [pol]; decide) (by rw [cone]; decide)
  refine hp.mono ?_
  rintro e w3 ⟨vp, vd, rfl, h8⟩
  obtain ⟨Ap, cp, hv, _⟩ := h8.rd2.at
  rw [pol] at hv
  subst hv
  rw [cone] at h8 ⊢
  have h9 : SL.St w0 (Graph g liveN :: Blk w2.heap.size (.cells #[.int .i64 4, .slice Af 7 cf] 33 (0, 0)) :: Arr (cNat .i64) 3 vc [1, 2, 3, 4] :: l) w3 := h8.sel [2, 4, 5] 3
  generalize w2.heap.size = F at *
  clear h6 h7 h8 hp
  go_wp2_with fail
  have hA := (SL.St.alloc (SL.St.alloc (SL.St.alloc h9 (.cells #[.int .i64 4, .slice Ap 4 cp] 33)) (.cells #[.int .u32 8] 42)) (.cells #[.bool true, .bool false] 4)).sel [3, 1, 0, 2]
  simp only [World.size_alloc] at hA
  have hf := Fill_walk w0 _ _ g liveN hA hgd.wf hgd.wfIn (by decide) (.slice (some ⟨w3.heap.size + 1, 0, none⟩) 1 1) (.slice (some ⟨w3.heap.size + 1 + 1, 0, none⟩) 2 2) [8] (fun _ _ h => h.rd_blk (d := cNat .u32) (ys := [8]) 1 1 rfl (by simp [Cd.all, cNat]) (by decide)) hroots (by rw [cone]; decide)
    [true, false] (fun _ _ h => (h.pull 1).rd_blk (d := cBool) (ys := [true, false]) 2 2 rfl (by simp [Cd.all, cBool]) (by decide)) (by decide)
  rw [fil] at hf
  refine hf.mono ?_
  rintro e w4 ⟨vm, rfl, hB⟩
  have hC : SL.St w0 (Arr (cInt .i8) 72 vm [1, -1, -1, 1] :: Blk w3.heap.size (.cells #[.int .i64 4, .slice Ap 4 cp] 33 (0, 0)) :: Blk F (.cells #[.int .i64 4, .slice Af 7 cf] 33 (0, 0)) :: Arr (cNat .i64) 3 vc [1, 2, 3, 4] :: l) w4 := hB.sel [0, 4, 5, 6] 3
  generalize w3.heap.size = F2 at *
  clear h9 hA hB hf
  have nw := fun w => no_walk w 0 (by decide) (by decide)
  obtain ⟨Am, cm, rfl, -, -⟩ := hC.rd
  obtain ⟨Ac, cc, rfl, -, -⟩ := (hC.pull 3).rd
  go_wp2_with (go_at_call 14; refine (nw _).mono ?_; rintro e w' ⟨rfl, rfl⟩)
  have hD := (SL.St.alloc hC (.cells #[.int .i64 1, .int .i64 2, .int .i64 3, .int .i64 4] 3))
  refine (sameInts_q _ _ _ [1, 2, 3, 4] [1, 2, 3, 4] (hD.pull 4).rd (hD.rd_blk (d := cNat .i64) (ys := [1, 2, 3, 4]) 4 4 rfl (by simp [Cd.all, cNat]) (by decide))).mono ?_
  rintro e w5 ⟨rfl, q, rfl⟩
  have hE := SL.St.drewN hD q
  generalize World.drewN (w4.alloc _) q = w6 at hE ⊢
  have f0 : w6.cell? ⟨F, 1, none⟩ = some (.slice Af 7 cf) := (hE.pull 3).cell 1
  have f1 : w6.cell? ⟨F2, 1, none⟩ = some (.slice Ap 4 cp) := (hE.pull 2).cell 1
  clear hC hD
  simp only [decide_true]
  go_wp2_with fail
  have hG := (SL.St.alloc hE (.cells #[.int .i8 1, .int .i8 (-1), .int .i8 (-1), .int .i8 1] 72))
  refine (sameRow_q _ _ _ [1, -1, -1, 1] [1, -1, -1, 1] (hG.pull 2).rd (hG.rd_blk (d := cInt .i8) (ys := [1, -1, -1, 1]) 4 4 rfl (by simp [Cd.all, cInt]) (by decide))).mono ?_
  rintro e w7 ⟨rfl, q2, rfl⟩
  have hH := SL.St.drewN hG q2
  go_wp2_with fail
  go_ret
  exact ⟨rfl, hH.sel [] 6⟩
end Go.Proofs.Ytjeopmiopinlgaa
