/- Tseitin's Encode and Polar: of what may not be. -/
import Derived.Test.YtjeopmiopinlgaaTsK
set_option linter.unusedVariables false
set_option linter.unusedSimpArgs false
namespace Go.Proofs.Ytjeopmiopinlgaa
open Go Go.RowKit SL

set_option maxHeartbeats 1000000 in
theorem Encode_bad (w0 w : World) (l : List HP) (g : Nat) (ns : Nodes) (h : SL.St w0 (Graph g ns :: l) w) (hl : ns.length ≤ 1048577) (v : Value) (roots : List Nat) (hr : Ent l (Rd (cNat .u32) v roots)) (hxb : ∀ y ∈ roots, y < 4294967296) (hx : ¬ ∀ y ∈ roots, y < 2 * ns.length) :
    Calls Try.prog 12 #[.pointer (some ⟨g, 0, none⟩), v] w fun e w' =>
      e = .returned (.tuple #[.agg #[.int .i64 0, .slice none 0 0], .slice none 0 0, .int .i64 100]) ∧ SL.St w0 (Graph g ns :: l) w' := by
  have hmf : ∀ (fn : Fn) (first cap : Array Value) (w : World), (Instr.makeFunc fn first cap).run Try.prog w = .ok (.func fn first cap) w := fun _ _ _ _ => rfl
  have h1 := ((h.alloc (.cells #[.pointer (some ⟨g, 0, none⟩)] 25)).alloc (.cells #[.int .i64 0, .slice none 0 0] 33)).sel [2, 1, 0]
  simp only [World.size_alloc] at h1
  have hcw := fun fv => encode_bad w0 _ _ g ns fv h1 hl _ roots (Ent.tail (Ent.tail hr)) hxb hx
  clear h hx
  go_enter Try.func12, Try.ntmps12
  go_wp2_with fail
  refine (hcw _).mono ?_
  rintro e w1 ⟨rfl, h2⟩
  generalize hR : w.heap.size + 1 = R at *
  clear hR hcw h1
  have b0 := (h2.pull 2).cell 0
  have b1 := (h2.pull 2).cell 1
  have b2 := (h2.pull 2).free 0
  have b3 := (h2.pull 2).free 1
  simp at b0 b1
  go_wp2_with fail
  have h6 := (((h2.pull 2).set 0 (.int .i64 0)).set 1 (.slice none 0 0))
  refine bodyPost_ret (v := .tuple #[.agg #[.int .i64 0, .slice none 0 0], .slice none 0 0, .int .i64 100]) (by simp [results, Try.results12, go_sem, b0, b1]) rfl ⟨rfl, ?_⟩
  exact h6.sel [1] 2
set_option maxHeartbeats 1000000 in
theorem Encode_nil (w0 w : World) (l : List HP) (h : SL.St w0 l w) (v : Value) (roots : List Nat) (hr : Ent l (Rd (cNat .u32) v roots)) :
    Calls Try.prog 12 #[.pointer none, v] w fun e w' =>
      e = .returned (.tuple #[.agg #[.int .i64 0, .slice none 0 0], .slice none 0 0, .int .i64 2]) ∧ SL.St w0 l w' := by
  have hmf : ∀ (fn : Fn) (first cap : Array Value) (w : World), (Instr.makeFunc fn first cap).run Try.prog w = .ok (.func fn first cap) w := fun _ _ _ _ => rfl
  have h1 := ((h.alloc (.cells #[.pointer none] 25)).alloc (.cells #[.int .i64 0, .slice none 0 0] 33))
  simp only [World.size_alloc] at h1
  have hcw := fun fv v => encode_nil w0 _ _ fv v h1
  clear h
  go_enter Try.func12, Try.ntmps12
  go_wp2_with fail
  refine (hcw _ _).mono ?_
  rintro e w1 ⟨rfl, h2⟩
  generalize hR : w.heap.size + 1 = R at *
  clear hR hcw h1
  have b0 := h2.cell 0
  have b1 := h2.cell 1
  have b2 := h2.free 0
  have b3 := h2.free 1
  simp at b0 b1
  go_wp2_with fail
  have h6 := ((h2.set 0 (.int .i64 0)).set 1 (.slice none 0 0))
  refine bodyPost_ret (v := .tuple #[.agg #[.int .i64 0, .slice none 0 0], .slice none 0 0, .int .i64 2]) (by simp [results, Try.results12, go_sem, b0, b1]) rfl ⟨rfl, ?_⟩
  exact h6.sel [] 2
set_option maxHeartbeats 1000000 in
theorem Polar_bad (w0 w : World) (l : List HP) (g : Nat) (ns : Nodes) (h : SL.St w0 (Graph g ns :: l) w) (hl : ns.length ≤ 1048577) (v : Value) (roots : List Nat) (hr : Ent l (Rd (cNat .u32) v roots)) (hxb : ∀ y ∈ roots, y < 4294967296) (hx : ¬ ∀ y ∈ roots, y < 2 * ns.length) :
    Calls Try.prog 17 #[.pointer (some ⟨g, 0, none⟩), v] w fun e w' =>
      e = .returned (.tuple #[.agg #[.int .i64 0, .slice none 0 0], .slice none 0 0, .int .i64 100]) ∧ SL.St w0 (Graph g ns :: l) w' := by
  have hmf : ∀ (fn : Fn) (first cap : Array Value) (w : World), (Instr.makeFunc fn first cap).run Try.prog w = .ok (.func fn first cap) w := fun _ _ _ _ => rfl
  obtain ⟨Ar, cr, hv, hmr, -⟩ := hr.use h.drop
  subst hv
  have h1 := (((h.alloc (.cells #[.pointer (some ⟨g, 0, none⟩)] 25)).alloc (.cells #[.slice Ar roots.length cr] 24)).alloc (.cells #[.int .i64 0, .slice none 0 0] 33)).sel [3, 2, 1, 0]
  simp only [World.size_alloc] at h1
  have hcw := fun fv => encode_bad w0 _ _ g ns fv h1 hl _ roots (Ent.tail (Ent.tail (Ent.tail hr))) hxb hx
  clear h hx
  go_enter Try.func17, Try.ntmps17
  go_wp2_with fail
  refine (hcw _).mono ?_
  rintro e w1 ⟨rfl, h2⟩
  generalize hR : w.heap.size + 1 + 1 = R at *
  clear hR hcw h1
  have b0 := (h2.pull 3).cell 0
  have b1 := (h2.pull 3).cell 1
  have b2 := (h2.pull 3).free 0
  have b3 := (h2.pull 3).free 1
  simp at b0 b1
  go_wp2_with fail
  have h6 := (((h2.pull 3).set 0 (.int .i64 0)).set 1 (.slice none 0 0))
  refine bodyPost_ret (v := .tuple #[.agg #[.int .i64 0, .slice none 0 0], .slice none 0 0, .int .i64 100]) (by simp [results, Try.results17, go_sem, b0, b1]) rfl ⟨rfl, ?_⟩
  exact h6.sel [1] 3
set_option maxHeartbeats 1000000 in
theorem Polar_nil (w0 w : World) (l : List HP) (h : SL.St w0 l w) (v : Value) (roots : List Nat) (hr : Ent l (Rd (cNat .u32) v roots)) :
    Calls Try.prog 17 #[.pointer none, v] w fun e w' =>
      e = .returned (.tuple #[.agg #[.int .i64 0, .slice none 0 0], .slice none 0 0, .int .i64 2]) ∧ SL.St w0 l w' := by
  have hmf : ∀ (fn : Fn) (first cap : Array Value) (w : World), (Instr.makeFunc fn first cap).run Try.prog w = .ok (.func fn first cap) w := fun _ _ _ _ => rfl
  obtain ⟨Ar, cr, hv, hmr, -⟩ := hr.use h
  subst hv
  have h1 := (((h.alloc (.cells #[.pointer none] 25)).alloc (.cells #[.slice Ar roots.length cr] 24)).alloc (.cells #[.int .i64 0, .slice none 0 0] 33))
  simp only [World.size_alloc] at h1
  have hcw := fun fv v => encode_nil w0 _ _ fv v h1
  clear h
  go_enter Try.func17, Try.ntmps17
  go_wp2_with fail
  refine (hcw _ _).mono ?_
  rintro e w1 ⟨rfl, h2⟩
  generalize hR : w.heap.size + 1 + 1 = R at *
  clear hR hcw h1
  have b0 := h2.cell 0
  have b1 := h2.cell 1
  have b2 := h2.free 0
  have b3 := h2.free 1
  simp at b0 b1
  go_wp2_with fail
  have h6 := ((h2.set 0 (.int .i64 0)).set 1 (.slice none 0 0))
  refine bodyPost_ret (v := .tuple #[.agg #[.int .i64 0, .slice none 0 0], .slice none 0 0, .int .i64 2]) (by simp [results, Try.results17, go_sem, b0, b1]) rfl ⟨rfl, ?_⟩
  exact h6.sel [] 3
end Go.Proofs.Ytjeopmiopinlgaa
