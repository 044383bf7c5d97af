/- Tseitin's Encode and Polar. -/
import Derived.Test.YtjeopmiopinlgaaTsJ
set_option linter.unusedVariables false
set_option linter.unusedSimpArgs false
namespace Go.Proofs.Ytjeopmiopinlgaa
open Go Go.RowKit SL

theorem encode_bad (w0 w : World) (l : List HP) (g : Nat) (ns : Nodes) (fv : Value) (h : SL.St w0 (Graph g ns :: l) w) (hl : ns.length ≤ 1048577) (v : Value) (roots : List Nat) (hr : Ent l (Rd (cNat .u32) v roots)) (hxb : ∀ y ∈ roots, y < 4294967296) (hx : ¬ ∀ y ∈ roots, y < 2 * ns.length) :
    Calls Try.prog 39 #[.pointer (some ⟨g, 0, none⟩), v, fv] w fun e w' =>
      e = .returned (.tuple #[.agg #[.int .i64 0, .slice none 0 0], .slice none 0 0, .int .i64 100]) ∧ SL.St w0 (Graph g ns :: l) w' := by
  have h1 := (h.alloc (.cells #[.int .i64 0, .slice none 0 0] 33)).swap
  have hcw := tcone_bad w0 _ _ g ns h1 (by omega) v roots (Ent.tail hr) hxb hx
  clear hx h h1
  go_enter Try.func39, Try.ntmps39
  go_wp2_with (go_at_call 47; refine hcw.mono ?_; rintro e w1 ⟨rfl, h2⟩; have b0 := (h2.pull 1).cell 0; have b1 := (h2.pull 1).cell 1; have b2 := (h2.pull 1).free 0; have b3 := (h2.pull 1).free 1; simp at b0 b1)
  have h6 := (((h2.pull 1).set 0 (.int .i64 0)).set 1 (.slice none 0 0))
  refine bodyPost_ret (v := .tuple #[.agg #[.int .i64 0, .slice none 0 0], .slice none 0 0, .int .i64 100]) (by simp [results, Try.results39, go_sem, b0, b1]) rfl ⟨rfl, ?_⟩
  exact h6.drop
theorem encode_nil (w0 w : World) (l : List HP) (fv v : Value) (h : SL.St w0 l w) :
    Calls Try.prog 39 #[.pointer none, v, fv] w fun e w' =>
      e = .returned (.tuple #[.agg #[.int .i64 0, .slice none 0 0], .slice none 0 0, .int .i64 2]) ∧ SL.St w0 l w' := by
  have h1 := (h.alloc (.cells #[.int .i64 0, .slice none 0 0] 33))
  have hcw := tcone_nil (w.alloc (.cells #[.int .i64 0, .slice none 0 0] 33)) v
  go_enter Try.func39, Try.ntmps39
  go_wp2_with (go_at_call 47; refine hcw.mono ?_; rintro e w1 ⟨rfl, rfl⟩)
  refine bodyPost_ret (v := .tuple #[.agg #[.int .i64 0, .slice none 0 0], .slice none 0 0, .int .i64 2]) (by simp [results, Try.results39, go_sem]) rfl ⟨rfl, ?_⟩
  exact h1.drop

/-- What Encode and Polar answer: the clauses under what is wanted. -/
def EncPost (w0 : World) (l : List HP) (g : Nat) (ns : Nodes) (wants roots : List Nat) (e : Ending) (w' : World) : Prop :=
  ∃ vf vc, e = .returned (.tuple #[.agg #[.int .i64 (coneM ns roots).length, vf], vc, .int .i64 0]) ∧ SL.St w0 (Arr2 (cInt .i64) 3 60 vf (clausesM ns wants roots) :: Arr (cNat .i64) 3 vc (coneM ns roots) :: Graph g ns :: l) w'
theorem encodeW_lt (ns : Nodes) (K : List Nat) : ∀ y ∈ encodeW ns K, y < 4 := by
  refine snocInd (P := fun c => ∀ y ∈ encodeW ns c, y < 4) ?_ ?_ K
  · intro y hy; simp [encodeW] at hy; omega
  · intro l a ih y hy
    rw [encodeW_snoc] at hy
    rcases List.mem_or_eq_of_mem_set hy with h | h
    · exact ih y h
    · omega
theorem polarW_eq (ns : Nodes) (roots : List Nat) : polarW ns roots = polFrom ns (roots.foldl markL (List.replicate ns.length 0)) (coneM ns roots) := rfl
theorem polarW_length (ns : Nodes) (roots : List Nat) : (polarW ns roots).length = ns.length := by
  rw [polarW_eq, polFrom_length, marks_length, List.length_replicate]
theorem polarW_lt (ns : Nodes) (roots : List Nat) : ∀ y ∈ polarW ns roots, y < 4 := by
  rw [polarW_eq]
  exact polFrom_lt ns (marks_lt roots (fun y hy => by rw [(List.mem_replicate.1 hy).2]; decide)) _

set_option maxHeartbeats 1000000 in
theorem Encode_walk (w0 w : World) (l : List HP) (g : Nat) (ns : Nodes) (h : SL.St w0 (Graph g ns :: l) w) (hw : Wf ns) (hl : ns.length ≤ 1048577) (v : Value) (roots : List Nat) (hr : Ent l (Rd (cNat .u32) v roots)) (hx : ∀ y ∈ roots, y < 2 * ns.length)
    (hcl : (clausesM ns (encodeW ns (coneM ns roots)) roots).length ≤ 1048576) (hKl : (coneM ns roots).length ≤ 1048576) :
    Calls Try.prog 12 #[.pointer (some ⟨g, 0, none⟩), v] w (EncPost w0 l g ns (encodeW ns (coneM ns roots)) roots) := by
  have hmf : ∀ (fn : Fn) (first cap : Array Value) (w : World), (Instr.makeFunc fn first cap).run Try.prog w = .ok (.func fn first cap) w := fun _ _ _ _ => rfl
  have h1 := ((h.alloc (.cells #[.pointer (some ⟨g, 0, none⟩)] 25)).alloc (.cells #[.int .i64 0, .slice none 0 0] 33)).sel [2, 1, 0]
  have hmem := (coneM_lined hw roots hx).1.mem
  simp only [World.size_alloc] at h1
  have hcw := encode_walk w0 _ _ g ns 40 #[.pointer (some ⟨w.heap.size, 0, none⟩)] (encodeW ns (coneM ns roots)) h1 hw hl v roots (Ent.tail (Ent.tail hr)) hx (fun _ _ => by kernel_rfl)
    (fun l1 w1 vc h2 => by
      have h3 : SL.St w0 (Arr (cNat .i64) 3 vc (coneM ns roots) :: Graph g ns :: Blk w.heap.size (.cells #[.pointer (some ⟨g, 0, none⟩)] 25 (0, 0)) :: (l1 ++ (Blk (w.heap.size + 1) (.cells #[.int .i64 0, .slice none 0 0] 33 (0, 0)) :: l))) w1 := by
        refine h2.perm ?_
        exact List.Perm.cons _ (List.Perm.cons _ List.perm_middle)
      refine (enc1_walk w0 w1 _ g _ ns (coneM ns roots) vc h3 (by omega) (fun m hm => (hmem m hm).2)).mono ?_
      rintro e w2 ⟨vw, rfl, h4⟩
      refine ⟨vw, rfl, h4.perm ?_⟩
      exact List.Perm.cons _ (List.Perm.cons _ (List.Perm.cons _ List.perm_middle.symm)))
    (encodeW_length _ _) (encodeW_lt _ _) hcl hKl
  unfold EncPost
  clear h
  generalize (coneM ns roots).length = kl at *
  generalize clausesM ns (encodeW ns (coneM ns roots)) roots = C at *
  generalize coneM ns roots = K at *
  go_enter Try.func12, Try.ntmps12
  go_wp2_with fail
  refine hcw.mono ?_
  rintro e w1 ⟨vf, vc, rfl, h2⟩
  generalize hR : w.heap.size + 1 = R at *
  clear hR hcw h1
  obtain ⟨Af, cf, rfl, _⟩ := h2.rd2.at
  have b0 := (h2.pull 4).cell 0
  have b1 := (h2.pull 4).cell 1
  have b2 := (h2.pull 4).free 0
  have b3 := (h2.pull 4).free 1
  simp at b0 b1
  go_wp2_with fail
  have h6 := (((h2.pull 4).set 0 (.int .i64 kl)).set 1 (.slice Af C.length cf))
  refine bodyPost_ret (v := .tuple #[.agg #[.int .i64 kl, .slice Af C.length cf], vc, .int .i64 0]) (by simp [results, Try.results12, go_sem, b0, b1]) rfl ⟨_, _, rfl, ?_⟩
  exact h6.sel [1, 2, 3] 2

set_option maxHeartbeats 1000000 in
theorem Polar_walk (w0 w : World) (l : List HP) (g : Nat) (ns : Nodes) (h : SL.St w0 (Graph g ns :: l) w) (hw : Wf ns) (hl : ns.length ≤ 1048577) (v : Value) (roots : List Nat) (hr : Ent l (Rd (cNat .u32) v roots)) (hx : ∀ y ∈ roots, y < 2 * ns.length)
    (hcl : (clausesM ns (polarW ns roots) roots).length ≤ 1048576) (hKl : (coneM ns roots).length ≤ 1048576) :
    Calls Try.prog 17 #[.pointer (some ⟨g, 0, none⟩), v] w (EncPost w0 l g ns (polarW ns roots) roots) := by
  have hmf : ∀ (fn : Fn) (first cap : Array Value) (w : World), (Instr.makeFunc fn first cap).run Try.prog w = .ok (.func fn first cap) w := fun _ _ _ _ => rfl
  obtain ⟨Ar, cr, hv, hmr, -⟩ := hr.use h.drop
  subst hv
  have h1 := (((h.alloc (.cells #[.pointer (some ⟨g, 0, none⟩)] 25)).alloc (.cells #[.slice Ar roots.length cr] 24)).alloc (.cells #[.int .i64 0, .slice none 0 0] 33)).sel [3, 2, 1, 0]
  have hmem := (coneM_lined hw roots hx).1.mem
  simp only [World.size_alloc] at h1
  have hcw := encode_walk w0 _ _ g ns 42 #[.pointer (some ⟨w.heap.size, 0, none⟩), .pointer (some ⟨w.heap.size + 1, 0, none⟩)] (polarW ns roots) h1 hw hl _ roots (Ent.tail (Ent.tail (Ent.tail hr))) hx (fun _ _ => by kernel_rfl)
    (fun l1 w1 vc h2 => by
      have h3 : SL.St w0 (Arr (cNat .i64) 3 vc (coneM ns roots) :: Graph g ns :: Blk w.heap.size (.cells #[.pointer (some ⟨g, 0, none⟩)] 25 (0, 0)) :: Blk (w.heap.size + 1) (.cells #[.slice Ar roots.length cr] 24 (0, 0)) :: (l1 ++ (Blk (w.heap.size + 1 + 1) (.cells #[.int .i64 0, .slice none 0 0] 33 (0, 0)) :: l))) w1 := by
        refine h2.perm ?_
        refine List.Perm.cons _ (List.Perm.cons _ ?_)
        exact List.perm_middle.trans (List.Perm.cons _ List.perm_middle)
      refine (pol1_walk w0 w1 _ g _ _ ns (coneM ns roots) roots _ vc h3 hw (by omega) (fun m hm => (hmem m hm).2) (fun w0' w' s' => hr.use (SL.St.drop (SL.St.dropL s'))) hx).mono ?_
      rintro e w2 ⟨vw, rfl, h4⟩
      rw [← polarW_eq] at h4
      refine ⟨vw, rfl, h4.perm ?_⟩
      refine List.Perm.cons _ (List.Perm.cons _ (List.Perm.cons _ ?_))
      exact (List.perm_middle.trans (List.Perm.cons _ List.perm_middle)).symm)
    (polarW_length _ _) (polarW_lt _ _) hcl hKl
  unfold EncPost
  clear h
  generalize (coneM ns roots).length = kl at *
  generalize clausesM ns (polarW ns roots) roots = C at *
  generalize coneM ns roots = K at *
  go_enter Try.func17, Try.ntmps17
  go_wp2_with fail
  refine hcw.mono ?_
  rintro e w1 ⟨vf, vc, rfl, h2⟩
  generalize hR : w.heap.size + 1 + 1 = R at *
  clear hR hcw h1
  obtain ⟨Af, cf, rfl, _⟩ := h2.rd2.at
  have b0 := (h2.pull 5).cell 0
  have b1 := (h2.pull 5).cell 1
  have b2 := (h2.pull 5).free 0
  have b3 := (h2.pull 5).free 1
  simp at b0 b1
  go_wp2_with fail
  have h6 := (((h2.pull 5).set 0 (.int .i64 kl)).set 1 (.slice Af C.length cf))
  refine bodyPost_ret (v := .tuple #[.agg #[.int .i64 kl, .slice Af C.length cf], vc, .int .i64 0]) (by simp [results, Try.results17, go_sem, b0, b1]) rfl ⟨_, _, rfl, ?_⟩
  exact h6.sel [1, 2, 3] 3
end Go.Proofs.Ytjeopmiopinlgaa
