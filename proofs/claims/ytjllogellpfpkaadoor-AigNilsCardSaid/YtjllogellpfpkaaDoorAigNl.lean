/- A graph that is nil: each method says so. -/
import Derived.Test.YtjllogellpfpkaaDoorAigJ
set_option linter.unusedVariables false
set_option linter.unusedSimpArgs false
namespace Go.Proofs.YtjllogellpfpkaaDoor
open Go Go.RowKit SL

theorem St.al {w0 w : World} {l : List HP} (h : SL.St w0 l w) (o : Obj) : SL.St w0 l (w.alloc o) := (h.alloc o).drop

theorem checked_nil (w : World) (f v : Value) :
    Calls Tryd.prog 74 #[.pointer none, f, v] w fun e w' => e = .returned (.tuple #[.int .u32 0, .int .i64 2]) ∧ w' = w := by
  go_enter Tryd.func74, Tryd.ntmps74
  go_wp2
  go_ret2
  exact ⟨rfl, rfl⟩

set_option maxRecDepth 100000 in
theorem Input_nil (w0 w : World) (l : List HP) (h : SL.St w0 l w) :
    Calls Tryd.prog 18 #[.pointer none] w fun e w' => e = .returned (.tuple #[.int .u32 0, .int .i64 2]) ∧ SL.St w0 l w' := by
  have hmf : ∀ (fn : Fn) (first cap : Array Value) (w : World), (Instr.makeFunc fn first cap).run Tryd.prog w = .ok (.func fn first cap) w := fun _ _ _ _ => rfl
  go_enter Tryd.func18, Tryd.ntmps18
  go_wp2_with (fail)
  go_ret2
  refine ⟨rfl, ?_⟩
  repeat (first | exact h | refine SL.St.drew ?_ | refine St.al ?_ _)

set_option maxRecDepth 100000 in
theorem And_nil (w0 w : World) (l : List HP) (h : SL.St w0 l w) (a b : Int) :
    Calls Tryd.prog 29 #[.pointer none, .int .u32 a, .int .u32 b] w fun e w' => e = .returned (.tuple #[.int .u32 0, .int .i64 2]) ∧ SL.St w0 l w' := by
  have hmf : ∀ (fn : Fn) (first cap : Array Value) (w : World), (Instr.makeFunc fn first cap).run Tryd.prog w = .ok (.func fn first cap) w := fun _ _ _ _ => rfl
  go_enter Tryd.func29, Tryd.ntmps29
  go_wp2_with (go_at_call 74; refine (checked_nil _ _ _).mono ?_; rintro e w1 ⟨rfl, rfl⟩)
  go_ret2
  refine ⟨rfl, ?_⟩
  repeat (first | exact h | refine SL.St.drew ?_ | refine St.al ?_ _)

set_option maxRecDepth 100000 in
theorem Or_nil (w0 w : World) (l : List HP) (h : SL.St w0 l w) (a b : Int) :
    Calls Tryd.prog 30 #[.pointer none, .int .u32 a, .int .u32 b] w fun e w' => e = .returned (.tuple #[.int .u32 0, .int .i64 2]) ∧ SL.St w0 l w' := by
  have hmf : ∀ (fn : Fn) (first cap : Array Value) (w : World), (Instr.makeFunc fn first cap).run Tryd.prog w = .ok (.func fn first cap) w := fun _ _ _ _ => rfl
  go_enter Tryd.func30, Tryd.ntmps30
  go_wp2_with (go_at_call 74; refine (checked_nil _ _ _).mono ?_; rintro e w1 ⟨rfl, rfl⟩)
  go_ret2
  refine ⟨rfl, ?_⟩
  repeat (first | exact h | refine SL.St.drew ?_ | refine St.al ?_ _)

set_option maxRecDepth 100000 in
theorem Xor_nil (w0 w : World) (l : List HP) (h : SL.St w0 l w) (a b : Int) :
    Calls Tryd.prog 31 #[.pointer none, .int .u32 a, .int .u32 b] w fun e w' => e = .returned (.tuple #[.int .u32 0, .int .i64 2]) ∧ SL.St w0 l w' := by
  have hmf : ∀ (fn : Fn) (first cap : Array Value) (w : World), (Instr.makeFunc fn first cap).run Tryd.prog w = .ok (.func fn first cap) w := fun _ _ _ _ => rfl
  go_enter Tryd.func31, Tryd.ntmps31
  go_wp2_with (go_at_call 74; refine (checked_nil _ _ _).mono ?_; rintro e w1 ⟨rfl, rfl⟩)
  go_ret2
  refine ⟨rfl, ?_⟩
  repeat (first | exact h | refine SL.St.drew ?_ | refine St.al ?_ _)

set_option maxRecDepth 100000 in
theorem Mux_nil (w0 w : World) (l : List HP) (h : SL.St w0 l w) (c a b : Int) :
    Calls Tryd.prog 32 #[.pointer none, .int .u32 c, .int .u32 a, .int .u32 b] w fun e w' => e = .returned (.tuple #[.int .u32 0, .int .i64 2]) ∧ SL.St w0 l w' := by
  have hmf : ∀ (fn : Fn) (first cap : Array Value) (w : World), (Instr.makeFunc fn first cap).run Tryd.prog w = .ok (.func fn first cap) w := fun _ _ _ _ => rfl
  go_enter Tryd.func32, Tryd.ntmps32
  go_wp2_with (go_at_call 74; refine (checked_nil _ _ _).mono ?_; rintro e w1 ⟨rfl, rfl⟩)
  go_ret2
  refine ⟨rfl, ?_⟩
  repeat (first | exact h | refine SL.St.drew ?_ | refine St.al ?_ _)

set_option maxRecDepth 100000 in
theorem All_nil (w0 w : World) (l : List HP) (h : SL.St w0 l w) (A : Option Addr) (n c : Nat) :
    Calls Tryd.prog 33 #[.pointer none, .slice A n c] w fun e w' => e = .returned (.tuple #[.int .u32 0, .int .i64 2]) ∧ SL.St w0 l w' := by
  have hmf : ∀ (fn : Fn) (first cap : Array Value) (w : World), (Instr.makeFunc fn first cap).run Tryd.prog w = .ok (.func fn first cap) w := fun _ _ _ _ => rfl
  go_enter Tryd.func33, Tryd.ntmps33
  go_wp2_with (go_at_call 74; refine (checked_nil _ _ _).mono ?_; rintro e w1 ⟨rfl, rfl⟩)
  go_ret2
  refine ⟨rfl, ?_⟩
  repeat (first | exact h | refine SL.St.drew ?_ | refine St.al ?_ _)

set_option maxRecDepth 100000 in
theorem Nodes_nil (w0 w : World) (l : List HP) (h : SL.St w0 l w) :
    Calls Tryd.prog 37 #[.pointer none] w fun e w' => e = .returned (.int .i64 0) ∧ SL.St w0 l w' := by
  have hmf : ∀ (fn : Fn) (first cap : Array Value) (w : World), (Instr.makeFunc fn first cap).run Tryd.prog w = .ok (.func fn first cap) w := fun _ _ _ _ => rfl
  go_enter Tryd.func37, Tryd.ntmps37
  go_wp2_with (fail)
  go_ret
  refine ⟨rfl, ?_⟩
  repeat (first | exact h | refine SL.St.drew ?_ | refine St.al ?_ _)

set_option maxRecDepth 100000 in
theorem Inputs_nil (w0 w : World) (l : List HP) (h : SL.St w0 l w) :
    Calls Tryd.prog 17 #[.pointer none] w fun e w' => e = .returned (.int .i64 0) ∧ SL.St w0 l w' := by
  have hmf : ∀ (fn : Fn) (first cap : Array Value) (w : World), (Instr.makeFunc fn first cap).run Tryd.prog w = .ok (.func fn first cap) w := fun _ _ _ _ => rfl
  go_enter Tryd.func17, Tryd.ntmps17
  go_wp2_with (fail)
  go_ret
  refine ⟨rfl, ?_⟩
  repeat (first | exact h | refine SL.St.drew ?_ | refine St.al ?_ _)

set_option maxRecDepth 100000 in
theorem Node_nil (w0 w : World) (l : List HP) (h : SL.St w0 l w) :
    Calls Tryd.prog 34 #[.pointer none, .int .i64 0] w fun e w' => e = .returned (.tuple #[.int .i64 0, .agg #[.int .u32 0, .int .u32 0], .int .i64 2]) ∧ SL.St w0 l w' := by
  have hmf : ∀ (fn : Fn) (first cap : Array Value) (w : World), (Instr.makeFunc fn first cap).run Tryd.prog w = .ok (.func fn first cap) w := fun _ _ _ _ => rfl
  go_enter Tryd.func34, Tryd.ntmps34
  go_wp2_with (fail)
  simp [bodyPost, results, Tryd.results34, go_sem]
  skip
  repeat (first | exact h | refine SL.St.drew ?_ | refine St.al ?_ _)

set_option maxRecDepth 100000 in
theorem Cone_nil (w0 w : World) (l : List HP) (h : SL.St w0 l w) (A : Option Addr) (n c : Nat) :
    Calls Tryd.prog 15 #[.pointer none, .slice A n c] w fun e w' => e = .returned (.tuple #[.slice none 0 0, .int .i64 2]) ∧ SL.St w0 l w' := by
  have hmf : ∀ (fn : Fn) (first cap : Array Value) (w : World), (Instr.makeFunc fn first cap).run Tryd.prog w = .ok (.func fn first cap) w := fun _ _ _ _ => rfl
  go_enter Tryd.func15, Tryd.ntmps15
  go_wp2_with (fail)
  go_ret2
  refine ⟨rfl, ?_⟩
  repeat (first | exact h | refine SL.St.drew ?_ | refine St.al ?_ _)

set_option maxRecDepth 100000 in
theorem Depth_nil (w0 w : World) (l : List HP) (h : SL.St w0 l w) (A : Option Addr) (n c : Nat) :
    Calls Tryd.prog 35 #[.pointer none, .slice A n c] w fun e w' => e = .returned (.tuple #[.int .i64 0, .int .i64 2]) ∧ SL.St w0 l w' := by
  have hmf : ∀ (fn : Fn) (first cap : Array Value) (w : World), (Instr.makeFunc fn first cap).run Tryd.prog w = .ok (.func fn first cap) w := fun _ _ _ _ => rfl
  go_enter Tryd.func35, Tryd.ntmps35
  go_wp2_with (go_at_call 15; refine (Cone_nil w0 _ l h _ _ _).mono ?_; clear h; rintro e w1 ⟨rfl, h⟩)
  go_ret2
  refine ⟨rfl, ?_⟩
  repeat (first | exact h | refine SL.St.drew ?_ | refine St.al ?_ _)

set_option maxRecDepth 100000 in
theorem Print_nil (w0 w : World) (l : List HP) (h : SL.St w0 l w) (A : Option Addr) (n c : Nat) :
    Calls Tryd.prog 14 #[.pointer none, .slice A n c] w fun e w' => e = .returned (.tuple #[.string ⟨#[]⟩, .int .i64 2]) ∧ SL.St w0 l w' := by
  have hmf : ∀ (fn : Fn) (first cap : Array Value) (w : World), (Instr.makeFunc fn first cap).run Tryd.prog w = .ok (.func fn first cap) w := fun _ _ _ _ => rfl
  go_enter Tryd.func14, Tryd.ntmps14
  go_wp2_with (go_at_call 15; refine (Cone_nil w0 _ l h _ _ _).mono ?_; clear h; rintro e w1 ⟨rfl, h⟩)
  go_ret2
  refine ⟨rfl, ?_⟩
  repeat (first | exact h | refine SL.St.drew ?_ | refine St.al ?_ _)

set_option maxRecDepth 100000 in
theorem Sim_nil (w0 w : World) (l : List HP) (h : SL.St w0 l w) (B : Option Addr) (k d : Nat) (A : Option Addr) (n c : Nat) :
    Calls Tryd.prog 36 #[.pointer none, .slice B k d, .slice A n c] w fun e w' => e = .returned (.tuple #[.slice none 0 0, .int .i64 2]) ∧ SL.St w0 l w' := by
  have hmf : ∀ (fn : Fn) (first cap : Array Value) (w : World), (Instr.makeFunc fn first cap).run Tryd.prog w = .ok (.func fn first cap) w := fun _ _ _ _ => rfl
  go_enter Tryd.func36, Tryd.ntmps36
  go_wp2_with (go_at_call 15; refine (Cone_nil w0 _ l h _ _ _).mono ?_; clear h; rintro e w1 ⟨rfl, h⟩)
  go_ret2
  refine ⟨rfl, ?_⟩
  repeat (first | exact h | refine SL.St.drew ?_ | refine St.al ?_ _)

theorem Lay_nil (w0 w : World) (l : List HP) (h : SL.St w0 l w) (g : Nat) :
    Calls Tryd.prog 19 #[.pointer none, .pointer (some ⟨g, 0, none⟩), .slice none 0 0, .slice none 0 0] w fun e w' => e = .returned (.tuple #[.slice none 0 0, .int .i64 2]) ∧ SL.St w0 l w' := by
  go_enter Tryd.func19, Tryd.ntmps19
  go_wp2_with fail
  go_ret2
  refine ⟨rfl, ?_⟩
  repeat (first | exact h | refine SL.St.drew ?_ | refine St.al ?_ _)

theorem Lay_nil2 (w0 w : World) (l : List HP) (h : SL.St w0 l w) (g : Nat) :
    Calls Tryd.prog 19 #[.pointer (some ⟨g, 0, none⟩), .pointer none, .slice none 0 0, .slice none 0 0] w fun e w' => e = .returned (.tuple #[.slice none 0 0, .int .i64 2]) ∧ SL.St w0 l w' := by
  go_enter Tryd.func19, Tryd.ntmps19
  go_wp2_with fail
  go_ret2
  refine ⟨rfl, ?_⟩
  repeat (first | exact h | refine SL.St.drew ?_ | refine St.al ?_ _)

set_option maxRecDepth 100000 in
theorem Eval_nil (w0 w : World) (l : List HP) (h : SL.St w0 l w) (A : Option Addr) (n c : Nat) :
    Calls Tryd.prog 21 #[.pointer none, .slice none 0 0, .slice A n c] w fun e w' => e = .returned (.tuple #[.slice none 0 0, .int .i64 2]) ∧ SL.St w0 l w' := by
  have hmk := run_make_row' (P := Tryd.prog) 67 101 (.int .u64 0) 8 Tryd.underlying67 infoU64 rfl .i64 .i64 0 (by omega) (by omega)
  simp only [show ((0 : Nat) : Int) = 0 from rfl] at hmk
  go_enter Tryd.func21, Tryd.ntmps21
  go_wp2_with fail
  have hs3 : SL.St w0 l _ := St.al h (.cells (madeCells #[Value.int .u64 0] 0) 101)
  generalize w.heap.size = kv at *
  generalize (w.alloc _) = w2 at hs3 ⊢
  clear hmk h
  go_loopg [21] 0 (fun k i wr => k = 0 ∧ i = .int .i64 0 ∧ SL.St w0 l wr)
  case atStart => exact ⟨rfl, rfl, hs3⟩
  case round =>
    clear hs3
    obtain ⟨hgk, rfl, hsr⟩ := hrel
    go_wp2_with (go_at_call 36; refine (Sim_nil w0 _ l hsr _ _ _ _ _ _).mono ?_; clear hsr; rintro e w1 ⟨rfl, hsr⟩)
    go_ret2
    exact ⟨rfl, hsr⟩
end Go.Proofs.YtjllogellpfpkaaDoor
