/- And, Or, Xor, Mux, All. -/
import Derived.Test.YtjllogellpfpkaaDoorAigC
set_option linter.unusedVariables false
set_option linter.unusedSimpArgs false
namespace Go.Proofs.YtjllogellpfpkaaDoor
open Go Go.RowKit SL

def Does (w0 : World) (g : Nat) (ns ns' : List (Nat × Nat)) (x : Nat) (l : List HP) (N : Nat) (caps : Array Value) : Prop :=
  ∀ (l1 : List HP) (w1 : World), SL.St w0 (Graph g ns :: (l1 ++ l)) w1 → Calls Tryd.prog N caps w1 fun e w' => e = .returned (.int .u32 (x : Nat)) ∧ SL.St w0 (Graph g ns' :: (l1 ++ l)) w'

theorem checked_walk (w0 w : World) (l : List HP) (g : Nat) (ns ns' : List (Nat × Nat)) (x : Nat) (N : Nat) (caps : Array Value) (h : SL.St w0 (Graph g ns :: l) w) (hn : ns.length ≤ 1073741824)
    (hN : ∀ w : World, (callFunc N caps).run Tryd.prog w = .ok (.enter N caps) w) (hdo : Does w0 g ns ns' x l N caps)
    (v : Value) (xs : List Nat) (hr : Rd (cNat .u32) v xs w) (hx : ∀ y ∈ xs, y < 2 * ns.length) :
    Calls Tryd.prog 74 #[.pointer (some ⟨g, 0, none⟩), .func (.func N) #[] caps, v] w fun e w' =>
      e = .returned (.tuple #[.int .u32 (x : Nat), .int .i64 0]) ∧ SL.St w0 (Graph g ns' :: l) w' := by
  obtain ⟨vn, vi, bm, hs⟩ := St.graph h
  obtain ⟨An, cn, rfl, hmn, hrn⟩ := (hs.pull 1).rd
  have hg0 : w.cell? ⟨g, 0, none⟩ = some (.slice An ns.length cn) := hs.cell 0
  have hall : (xs.all fun y => decide (y / 2 < ns.length)) = true := by
    rw [List.all_eq_true]; intro y hy; have := hx y hy; simp; omega
  have hxb : ∀ y ∈ xs, y < 4294967296 := fun y hy => by have := hx y hy; omega
  clear hs hrn
  go_enter Tryd.func74, Tryd.ntmps74
  go_wp2_with (first | (go_at_call 46; refine (may_walk _ _ _ _ _ _ xs hg0 hn hr hxb).mono ?_; rintro e w' ⟨rfl, rfl⟩; rw [hall]) | (go_at_call 51; refine (made_walk w0 _ l g ns ns' x N caps h hN hdo).mono ?_; rintro e w1 ⟨rfl, hs1⟩))
  go_ret2
  exact ⟨rfl, hs1⟩

/-- The variables that a closure of And's, Or's and Xor's has taken. -/
theorem caps3 {w0 w : World} {l1 l : List HP} {g k : Nat} {ns : List (Nat × Nat)} {a b : Nat} {z : HP}
    (h : SL.St w0 (Graph g ns :: (l1 ++ (z :: Blk (k + 1 + 1) (.cells #[.int .u32 (b : Nat)] 32 (0, 0)) :: Blk (k + 1) (.cells #[.int .u32 (a : Nat)] 32 (0, 0)) :: Blk k (.cells #[.pointer (some ⟨g, 0, none⟩)] 24 (0, 0)) :: l))) w) :
    w.cell? ⟨k, 0, none⟩ = some (.pointer (some ⟨g, 0, none⟩)) ∧ w.cell? ⟨k + 1, 0, none⟩ = some (.int .u32 (a : Nat)) ∧ w.cell? ⟨k + 1 + 1, 0, none⟩ = some (.int .u32 (b : Nat)) :=
  have h1 := h.drop.dropL
  ⟨(h1.pull 3).cell 0, (h1.pull 2).cell 0, (h1.pull 1).cell 0⟩

theorem And_walk (w0 w : World) (l : List HP) (g : Nat) (ns : List (Nat × Nat)) (h : SL.St w0 (Graph g ns :: l) w) (hn : ns.length < 1073741824) (h0 : ns.length ≠ 0) (a b : Nat) (ha : a < 2 * ns.length) (hb : b < 2 * ns.length) :
    Calls Tryd.prog 29 #[.pointer (some ⟨g, 0, none⟩), .int .u32 (a : Nat), .int .u32 (b : Nat)] w fun e w' =>
      e = .returned (.tuple #[.int .u32 ((andM ns a b).1 : Nat), .int .i64 0]) ∧ SL.St w0 (Graph g (andM ns a b).2 :: l) w' := by
  have hmf : ∀ (fn : Fn) (first cap : Array Value) (w : World), (Instr.makeFunc fn first cap).run Tryd.prog w = .ok (.func fn first cap) w := fun _ _ _ _ => rfl
  go_enter Tryd.func29, Tryd.ntmps29
  go_wp2_with fail
  have hs1 := (((h.alloc (.cells #[.pointer (some ⟨g, 0, none⟩)] 24)).alloc (.cells #[.int .u32 (a : Nat)] 32)).alloc (.cells #[.int .u32 (b : Nat)] 32)).alloc (.cells #[.int .u32 (a : Nat), .int .u32 (b : Nat)] 32)
  simp only [World.size_alloc] at hs1
  generalize hk : w.heap.size = k at *
  generalize ((((w.alloc _).alloc _).alloc _).alloc _) = w1 at hs1 ⊢
  refine (checked_walk w0 w1 _ g ns (andM ns a b).2 (andM ns a b).1 75 _ (hs1.pull 4) (by omega) (fun _ => by kernel_rfl) ?_ _ [a, b] (hs1.rd_blk _ _ rfl rfl (by unfold maxLen; simp)) (by simp [ha, hb])).mono ?_
  · intro l1 w2 hs2
    obtain ⟨c0, c1, c2⟩ := caps3 hs2
    go_enter Tryd.func75, Tryd.ntmps75
    go_wp2_with (go_at_call 53; refine (and_walk w0 _ _ g ns hs2 hn h0 _ _ (by omega) (by omega)).mono ?_; rintro e w3 ⟨rfl, hs3⟩)
    go_ret
    exact ⟨rfl, hs3⟩
  · rintro e w4 ⟨rfl, hs4⟩
    go_wp2_with fail
    go_ret2
    exact ⟨rfl, hs4.sel [0] 4⟩
end Go.Proofs.YtjllogellpfpkaaDoor
