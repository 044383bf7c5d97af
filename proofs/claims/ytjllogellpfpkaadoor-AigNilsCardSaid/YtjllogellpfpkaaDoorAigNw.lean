/- The law AigNils answers true, whatever its arguments. -/
import Derived.Test.YtjllogellpfpkaaDoorAigNl
import Derived.Test.YtjllogellpfpkaaDoorAigT
set_option linter.unusedVariables false
set_option linter.unusedSimpArgs false
namespace Go.Proofs.YtjllogellpfpkaaDoor
open Go Go.RowKit SL

set_option maxRecDepth 100000 in
set_option maxHeartbeats 4000000 in
theorem nils_walk (w0 w : World) (l : List HP) (h : SL.St w0 l w) (A : Option Addr) (n c : Nat) (a : Int) :
    Calls Tryd.prog 7 #[.slice A n c, .int .u32 a] w fun e w' => e = .returned (.bool true) ∧ SL.St w0 l w' := by
  go_enter Tryd.func7, Tryd.ntmps7
  go_wp2_with (first
    | (go_at_call 18; refine (Input_nil w0 _ l (by first | exact h | exact St.al h _)).mono ?_; clear h; rintro e w1 ⟨rfl, h⟩)
    | (go_at_call 29; refine (And_nil w0 _ l (by first | exact h | exact St.al h _) _ _).mono ?_; clear h; rintro e w1 ⟨rfl, h⟩)
    | (go_at_call 30; refine (Or_nil w0 _ l (by first | exact h | exact St.al h _) _ _).mono ?_; clear h; rintro e w1 ⟨rfl, h⟩)
    | (go_at_call 31; refine (Xor_nil w0 _ l (by first | exact h | exact St.al h _) _ _).mono ?_; clear h; rintro e w1 ⟨rfl, h⟩)
    | (go_at_call 32; refine (Mux_nil w0 _ l (by first | exact h | exact St.al h _) _ _ _).mono ?_; clear h; rintro e w1 ⟨rfl, h⟩)
    | (go_at_call 33; refine (All_nil w0 _ l (by first | exact h | exact St.al h _) _ _ _).mono ?_; clear h; rintro e w1 ⟨rfl, h⟩)
    | (go_at_call 34; refine (Node_nil w0 _ l (by first | exact h | exact St.al h _)).mono ?_; clear h; rintro e w1 ⟨rfl, h⟩)
    | (go_at_call 15; refine (Cone_nil w0 _ l (by first | exact h | exact St.al h _) _ _ _).mono ?_; clear h; rintro e w1 ⟨rfl, h⟩)
    | (go_at_call 35; refine (Depth_nil w0 _ l (by first | exact h | exact St.al h _) _ _ _).mono ?_; clear h; rintro e w1 ⟨rfl, h⟩)
    | (go_at_call 21; refine (Eval_nil w0 _ l (by first | exact h | exact St.al h _) _ _ _).mono ?_; clear h; rintro e w1 ⟨rfl, h⟩)
    | (go_at_call 36; refine (Sim_nil w0 _ l (by first | exact h | exact St.al h _) _ _ _ _ _ _).mono ?_; clear h; rintro e w1 ⟨rfl, h⟩)
    | (go_at_call 9; refine (New_walk w0 _ l (by first | exact h | exact St.al h _)).mono ?_; clear h; rintro e w1 ⟨g, rfl, h⟩; replace h := h.drop))
  refine (Lay_nil w0 _ l (by first | exact h | exact St.al h _) _).mono ?_
  clear h; rintro e w1 ⟨rfl, h⟩
  go_wp2_with (go_at_call 9; refine (New_walk w0 _ l h).mono ?_; clear h; rintro e w1 ⟨g, rfl, h⟩; replace h := h.drop)
  refine (Lay_nil2 w0 _ l h _).mono ?_
  clear h; rintro e w1 ⟨rfl, h⟩
  go_wp2_with fail
  refine (Print_nil w0 _ l (by first | exact h | exact St.al h _) _ _ _).mono ?_; clear h; rintro e w1 ⟨rfl, h⟩
  go_wp2_with fail
  have hs1 := h.alloc (.cells #[.int .i64 2, .int .i64 2, .int .i64 2, .int .i64 2, .int .i64 2, .int .i64 2, .int .i64 2, .int .i64 2, .int .i64 2, .int .i64 2, .int .i64 2, .int .i64 2, .int .i64 2, .int .i64 2] 36)
  have hc : ∀ i : Nat, i < 14 → (w1.alloc (.cells #[.int .i64 2, .int .i64 2, .int .i64 2, .int .i64 2, .int .i64 2, .int .i64 2, .int .i64 2, .int .i64 2, .int .i64 2, .int .i64 2, .int .i64 2, .int .i64 2, .int .i64 2, .int .i64 2] 36)).cell? ⟨w1.heap.size, i, none⟩ = some (.int .i64 2) := by
    intro i hi
    rw [hs1.cell i]
    match i, hi with
    | 0, _ => rfl
    | 1, _ => rfl
    | 2, _ => rfl
    | 3, _ => rfl
    | 4, _ => rfl
    | 5, _ => rfl
    | 6, _ => rfl
    | 7, _ => rfl
    | 8, _ => rfl
    | 9, _ => rfl
    | 10, _ => rfl
    | 11, _ => rfl
    | 12, _ => rfl
    | 13, _ => rfl
    | n + 14, h => omega
  clear h
  generalize w1.heap.size = kb at *
  generalize (w1.alloc _) = w2 at hs1 hc ⊢
  go_loopg [36] 14 (fun k i wr => ∃ j : Nat, j ≤ 14 ∧ k = 14 - j ∧ i = .int .i64 j ∧ wr = w2)
  case atStart => exact ⟨0, by omega, rfl, rfl, rfl⟩
  case round =>
    obtain ⟨j, hj, hgk, rfl, rfl⟩ := hrel
    subst hgk
    by_cases hlt : j < 14
    · have hcell := hc j hlt
      have hlt' := hlt
      go_wp2_with (go_at_call 16; refine (no_walk _ 2 (by decide) (by decide)).mono ?_; rintro e w' ⟨rfl, rfl⟩)
      go_roundg (14 - (j + 1))
      case measure => omega
      case rel => exact ⟨j + 1, by omega, rfl, by go_num, rfl⟩
    · obtain rfl : j = 14 := by omega
      have hs2 := hs1.drop
      go_wp2_with (first
        | (go_at_call 37; refine (Nodes_nil w0 _ l hs2).mono ?_; clear hs2; rintro e w3 ⟨rfl, hs2⟩)
        | (go_at_call 17; refine (Inputs_nil w0 _ l hs2).mono ?_; clear hs2; rintro e w3 ⟨rfl, hs2⟩)
        | (go_at_call 10; refine (live_walk w0 _ l hs2).mono ?_; clear hs2; rintro e w3 ⟨rfl, hs2⟩))
      go_ret
      exact ⟨rfl, hs2⟩
end Go.Proofs.YtjllogellpfpkaaDoor
