/- What is made by some ands: with a deferred look at a panic that does not come. -/
import Derived.Test.YtjllogellpfpkaaDoorAigB
import Derived.Recover
set_option linter.unusedVariables false
set_option linter.unusedSimpArgs false
namespace Go.Proofs.YtjllogellpfpkaaDoor
open Go Go.RowKit SL

theorem catch_idle (caps : Array Value) (h4 : caps.size = 4) (w : World) :
    CallsD Tryd.prog 84 caps .returning w fun e u' w' => e = .returned (.tuple #[]) ∧ u' = .returning ∧ w' = w := by
  obtain ⟨c0, c1, c2, c3, rfl⟩ : ∃ c0 c1 c2 c3, caps = #[c0, c1, c2, c3] := ⟨caps[0], caps[1], caps[2], caps[3], by
    apply Array.ext
    · simp [h4]
    · intro i h1 h2
      have : i = 0 ∨ i = 1 ∨ i = 2 ∨ i = 3 := by omega
      rcases this with rfl | rfl | rfl | rfl <;> rfl⟩
  refine callsD_of_wpS Tryd.func84 rfl fun c₀ cs hu => ?_
  apply wpS_seq
  apply wpS_region
  simp [wpOpsS, go_sem, recoverD, hu, Tryd.ntmps84, Exit.thenS]
  apply wpS_seq
  apply wpS_region
  simp [wpOpsS, go_sem, recoverD, hu, Exit.thenS]
  refine wpS_cond (t := false) (by simp [Act.eval, Array.replicate]) ?_
  simp only [Bool.false_eq_true, if_false]
  refine wpS_of_wp (wp_skip ?_)
  cases c₀
  simp_all [bodyPostS, results, Tryd.results84]

theorem made_walk (w0 w : World) (l : List HP) (g : Nat) (ns ns' : List (Nat × Nat)) (x : Nat) (N : Nat) (caps : Array Value) (h : SL.St w0 (Graph g ns :: l) w)
    (hN : ∀ w : World, (callFunc N caps).run Tryd.prog w = .ok (.enter N caps) w)
    (hdo : ∀ (l1 : List HP) (w1 : World), SL.St w0 (Graph g ns :: (l1 ++ l)) w1 → Calls Tryd.prog N caps w1 fun e w' => e = .returned (.int .u32 (x : Nat)) ∧ SL.St w0 (Graph g ns' :: (l1 ++ l)) w') :
    Calls Tryd.prog 51 #[.pointer (some ⟨g, 0, none⟩), .func (.func N) #[] caps] w fun e w' =>
      e = .returned (.tuple #[.int .u32 (x : Nat), .int .i64 0]) ∧ SL.St w0 (Graph g ns' :: l) w' := by
  obtain ⟨vn, vi, bm, hs⟩ := St.graph h
  obtain ⟨An, cn, rfl, hmn, hrn⟩ := (hs.pull 1).rd
  have hg0 : w.cell? ⟨g, 0, none⟩ = some (.slice An ns.length cn) := hs.cell 0
  obtain ⟨-, -, ra, rb, -⟩ := allocs hg0
  have hmf : ∀ (fn : Fn) (first cap : Array Value) (w : World), (Instr.makeFunc fn first cap).run Tryd.prog w = .ok (.func fn first cap) w := fun _ _ _ _ => rfl
  go_enter_defers Tryd.func51, Tryd.ntmps51
  go_wp2_with fail
  have hs1 := (((h.alloc (.cells #[.pointer (some ⟨g, 0, none⟩)] 24)).alloc (.cells #[.int .u32 0] 32)).alloc (.cells #[.int .i64 0] 36)).alloc (.cells #[.int .i64 ns.length] 3)
  simp only [World.size_alloc] at hs1
  generalize hk : w.heap.size = k at *
  generalize ((((w.alloc _).alloc _).alloc _).alloc _) = w1 at hs1 ⊢
  refine (hdo [_, _, _, _] w1 (hs1.pull 4)).mono ?_
  rintro e w2 ⟨rfl, hs2⟩
  have c0 := (hs2.pull 3).cell 0
  have f0 := (hs2.pull 3).free 0
  have c1 := (hs2.pull 2).cell 0
  have f1 := (hs2.pull 2).free 0
  simp at c0 c1
  have hs3 := (((hs2.pull 3).set 0 (.int .u32 (x : Nat))).pull 3).set 0 (.int .i64 0)
  go_wp2_with fail
  generalize hw3 : (w2.setCell _ _).setCell _ _ = w3
  rw [hw3] at hs3
  have d0 : w3.cell? ⟨k + 1 + 1, 0, none⟩ = some (.int .i64 0) := hs3.cell 0
  have d1 : w3.cell? ⟨k + 1, 0, none⟩ = some (.int .u32 (x : Nat)) := (hs3.pull 1).cell 0
  refine leaves_cons (f := 84) (args := #[.pointer (some ⟨k, 0, none⟩), .pointer (some ⟨k + 1 + 1 + 1, 0, none⟩), .pointer (some ⟨k + 1, 0, none⟩), .pointer (some ⟨k + 1 + 1, 0, none⟩)]) (by simp) (by simp [go_sem]) ?_
  refine (catch_idle _ rfl _).mono ?_
  rintro e u' w4 ⟨rfl, rfl, rfl⟩
  simp [Leaves, settle, results, Tryd.results51, go_sem, d0, d1]
  exact hs3.sel [2] 4
end Go.Proofs.YtjllogellpfpkaaDoor
