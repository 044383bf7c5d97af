/- Or, Xor, Mux, All. -/
import Derived.Test.YtjllogellpfpkaaDoorAigD
set_option linter.unusedVariables false
set_option linter.unusedSimpArgs false
namespace Go.Proofs.YtjllogellpfpkaaDoor
open Go Go.RowKit SL

theorem or_walk (w0 w : World) (l : List HP) (g : Nat) (ns : List (Nat × Nat)) (h : SL.St w0 (Graph g ns :: l) w) (hn : ns.length < 1073741824) (h0 : ns.length ≠ 0) (a b : Nat) (ha : a < 2 * ns.length) (hb : b < 2 * ns.length) :
    Calls Tryd.prog 77 #[.pointer (some ⟨g, 0, none⟩), .int .u32 (a : Nat), .int .u32 (b : Nat)] w fun e w' =>
      e = .returned (.int .u32 ((orM ns a b).1 : Nat)) ∧ SL.St w0 (Graph g (orM ns a b).2 :: l) w' := by
  have h1 := notL_lt2 ha
  have h2 := notL_lt2 hb
  have h3 := (andM_lt ns (notL a) (notL b) h0 h1 h2)
  go_enter Tryd.func77, Tryd.ntmps77
  go_wp2_with fail
  refine (not_walk _ _ (by omega)).mono ?_; rintro e w' ⟨rfl, rfl⟩
  go_wp2_with fail
  refine (not_walk _ _ (by omega)).mono ?_; rintro e w' ⟨rfl, rfl⟩
  go_wp2_with fail
  refine (and_walk w0 _ l g ns h hn h0 _ _ (by omega) (by omega)).mono ?_; rintro e w1 ⟨rfl, hs1⟩
  go_wp2_with fail
  refine (not_walk _ _ (by omega)).mono ?_; rintro e w' ⟨rfl, rfl⟩
  go_wp2_with fail
  go_ret
  exact ⟨rfl, hs1⟩

theorem Or_walk (w0 w : World) (l : List HP) (g : Nat) (ns : List (Nat × Nat)) (h : SL.St w0 (Graph g ns :: l) w) (hn : ns.length < 1073741824) (h0 : ns.length ≠ 0) (a b : Nat) (ha : a < 2 * ns.length) (hb : b < 2 * ns.length) :
    Calls Tryd.prog 30 #[.pointer (some ⟨g, 0, none⟩), .int .u32 (a : Nat), .int .u32 (b : Nat)] w fun e w' =>
      e = .returned (.tuple #[.int .u32 ((orM ns a b).1 : Nat), .int .i64 0]) ∧ SL.St w0 (Graph g (orM ns a b).2 :: l) w' := by
  have hmf : ∀ (fn : Fn) (first cap : Array Value) (w : World), (Instr.makeFunc fn first cap).run Tryd.prog w = .ok (.func fn first cap) w := fun _ _ _ _ => rfl
  go_enter Tryd.func30, Tryd.ntmps30
  go_wp2_with fail
  have hs1 := (((h.alloc (.cells #[.pointer (some ⟨g, 0, none⟩)] 24)).alloc (.cells #[.int .u32 (a : Nat)] 32)).alloc (.cells #[.int .u32 (b : Nat)] 32)).alloc (.cells #[.int .u32 (a : Nat), .int .u32 (b : Nat)] 32)
  simp only [World.size_alloc] at hs1
  generalize hk : w.heap.size = k at *
  generalize ((((w.alloc _).alloc _).alloc _).alloc _) = w1 at hs1 ⊢
  refine (checked_walk w0 w1 _ g ns (orM ns a b).2 (orM ns a b).1 76 _ (hs1.pull 4) (by omega) (fun _ => by kernel_rfl) ?_ _ [a, b] (hs1.rd_blk _ _ rfl rfl (by unfold maxLen; simp)) (by simp [ha, hb])).mono ?_
  · intro l1 w2 hs2
    obtain ⟨c0, c1, c2⟩ := caps3 hs2
    go_enter Tryd.func76, Tryd.ntmps76
    go_wp2_with (go_at_call 77; refine (or_walk w0 _ _ g ns hs2 hn h0 _ _ ha hb).mono ?_; rintro e w3 ⟨rfl, hs3⟩)
    go_ret
    exact ⟨rfl, hs3⟩
  · rintro e w4 ⟨rfl, hs4⟩
    go_wp2_with fail
    go_ret2
    exact ⟨rfl, hs4.sel [0] 4⟩

theorem xor1_walk (w0 w : World) (l1 l : List HP) (g k : Nat) (ns : List (Nat × Nat)) (z : HP) (a b : Nat)
    (hs : SL.St w0 (Graph g ns :: (l1 ++ (z :: Blk (k + 1 + 1) (.cells #[.int .u32 (b : Nat)] 32 (0, 0)) :: Blk (k + 1) (.cells #[.int .u32 (a : Nat)] 32 (0, 0)) :: Blk k (.cells #[.pointer (some ⟨g, 0, none⟩)] 24 (0, 0)) :: l))) w)
    (hn : ns.length + 3 ≤ 1073741824) (h0 : ns.length ≠ 0) (ha : a < 2 * ns.length) (hb : b < 2 * ns.length) :
    Calls Tryd.prog 78 #[.pointer (some ⟨k, 0, none⟩), .pointer (some ⟨k + 1, 0, none⟩), .pointer (some ⟨k + 1 + 1, 0, none⟩)] w fun e w' =>
      e = .returned (.int .u32 ((xorM ns a b).1 : Nat)) ∧ SL.St w0 (Graph g (xorM ns a b).2 :: (l1 ++ (z :: Blk (k + 1 + 1) (.cells #[.int .u32 (b : Nat)] 32 (0, 0)) :: Blk (k + 1) (.cells #[.int .u32 (a : Nat)] 32 (0, 0)) :: Blk k (.cells #[.pointer (some ⟨g, 0, none⟩)] 24 (0, 0)) :: l))) w' := by
  obtain ⟨c0, c1, c2⟩ := caps3 hs
  have p1 := andM_lt ns a b h0 ha hb
  have na := notL_lt2 ha
  have nb := notL_lt2 hb
  have p2 := andM_lt (andM ns a b).2 (notL a) (notL b) (by omega) (by omega) (by omega)
  have n1 := notL_lt2 p1.1
  have n2 := notL_lt2 p2.1
  go_enter Tryd.func78, Tryd.ntmps78
  go_wp2_with fail
  refine (and_walk w0 _ _ g ns hs (by omega) h0 _ _ (by omega) (by omega)).mono ?_
  rintro e w1 ⟨rfl, hs1⟩
  obtain ⟨d0, d1, d2⟩ := caps3 hs1
  have r0 := Ext.rule d0
  have r1 := Ext.rule d1
  have r2 := Ext.rule d2
  go_wp2_with fail
  -- region 2 of (*cadence/aig.Graph).Xor$1: 0:load 1:load 2:call fn 3:load 4:call fn 5:call fn 6:assign
  refine wp_region_plan (Ext w1) [(0, 1), (1, 1), (3, 1), (2, 2), (4, 2)] 5 (by kernel_rfl) (by kernel_rfl) ?_
  have hx0 : Ext w1 w1.drew := Ext.refl w1
  iterate 3 (first | (refine plan_held_skip rfl rfl (by assumption) ?_; simp only [Act.put, List.setIfInBounds_toArray, List.set_cons_zero, List.set_cons_succ]) | (refine plan_held (v := ?_) rfl rfl (fun _ hSw => ?_) (by assumption) ?_; rotate_left; (focus (go_simp; try with_reducible rfl; done)); simp only [Act.put, List.setIfInBounds_toArray, List.set_cons_zero, List.set_cons_succ]))
  ((refine plan_eff rfl (fun K hK => ?_)); go_simp; (refine (not_walk _ a (by omega)).mono ?_); (rintro e w' ⟨rfl, rfl⟩); (refine hK _ _ ⟨by assumption, ?_⟩); clear hK K)
  ((refine plan_eff rfl (fun K hK => ?_)); go_simp; (refine (not_walk _ b (by omega)).mono ?_); (rintro e w' ⟨rfl, rfl⟩); (refine hK _ _ ⟨by assumption, ?_⟩); clear hK K)
  refine plan_end ?_
  simp only [List.drop]
  go_wp2_with fail
  refine (and_walk w0 _ _ g _ hs1.drew (by omega) (by omega) (notL a) (notL b) (by omega) (by omega)).mono ?_
  rintro e w2 ⟨rfl, hs2⟩
  obtain ⟨d0', d1', d2'⟩ := caps3 hs2
  have r0' := Ext.rule d0'
  go_wp2_with (refine NoPanic.normal ?_)
  clear hx0
  -- region 3 of (*cadence/aig.Graph).Xor$1: 0:load 1:move 2:call fn 3:move 4:call fn 5:call fn 6:assign
  refine wp_region_plan (Ext w2) [(0, 1), (1, 1), (3, 1), (2, 2), (4, 2)] 5 (by kernel_rfl) (by kernel_rfl) ?_
  have hx0 : Ext w2 w2.drew := Ext.refl w2
  iterate 3 (first | (refine plan_held_skip rfl rfl (by assumption) ?_; simp only [Act.put, List.setIfInBounds_toArray, List.set_cons_zero, List.set_cons_succ]) | (refine plan_held (v := ?_) rfl rfl (fun _ hSw => ?_) (by assumption) ?_; rotate_left; (focus (go_simp; try with_reducible rfl; done)); simp only [Act.put, List.setIfInBounds_toArray, List.set_cons_zero, List.set_cons_succ]))
  ((refine plan_eff rfl (fun K hK => ?_)); go_simp; (refine (not_walk _ _ (by omega)).mono ?_); (rintro e w' ⟨rfl, rfl⟩); (refine hK _ _ ⟨by assumption, ?_⟩); clear hK K)
  ((refine plan_eff rfl (fun K hK => ?_)); go_simp; (refine (not_walk _ _ (by omega)).mono ?_); (rintro e w' ⟨rfl, rfl⟩); (refine hK _ _ ⟨by assumption, ?_⟩); clear hK K)
  refine plan_end ?_
  simp only [List.drop]
  go_wp2_with fail
  refine (and_walk w0 _ _ g _ hs2.drew (by omega) (by omega) _ _ (by omega) (by omega)).mono ?_
  rintro e w3 ⟨rfl, hs3⟩
  go_wp2_with (refine NoPanic.normal ?_)
  go_ret
  exact ⟨rfl, hs3⟩

theorem Xor_walk (w0 w : World) (l : List HP) (g : Nat) (ns : List (Nat × Nat)) (h : SL.St w0 (Graph g ns :: l) w) (hn : ns.length + 3 ≤ 1073741824) (h0 : ns.length ≠ 0) (a b : Nat) (ha : a < 2 * ns.length) (hb : b < 2 * ns.length) :
    Calls Tryd.prog 31 #[.pointer (some ⟨g, 0, none⟩), .int .u32 (a : Nat), .int .u32 (b : Nat)] w fun e w' =>
      e = .returned (.tuple #[.int .u32 ((xorM ns a b).1 : Nat), .int .i64 0]) ∧ SL.St w0 (Graph g (xorM ns a b).2 :: l) w' := by
  have hmf : ∀ (fn : Fn) (first cap : Array Value) (w : World), (Instr.makeFunc fn first cap).run Tryd.prog w = .ok (.func fn first cap) w := fun _ _ _ _ => rfl
  go_enter Tryd.func31, Tryd.ntmps31
  go_wp2_with fail
  have hs1 := (((h.alloc (.cells #[.pointer (some ⟨g, 0, none⟩)] 24)).alloc (.cells #[.int .u32 (a : Nat)] 32)).alloc (.cells #[.int .u32 (b : Nat)] 32)).alloc (.cells #[.int .u32 (a : Nat), .int .u32 (b : Nat)] 32)
  simp only [World.size_alloc] at hs1
  generalize hk : w.heap.size = k at *
  generalize ((((w.alloc _).alloc _).alloc _).alloc _) = w1 at hs1 ⊢
  refine (checked_walk w0 w1 _ g ns (xorM ns a b).2 (xorM ns a b).1 78 _ (hs1.pull 4) (by omega) (fun _ => by kernel_rfl) ?_ _ [a, b] (hs1.rd_blk _ _ rfl rfl (by unfold maxLen; simp)) (by simp [ha, hb])).mono ?_
  · intro l1 w2 hs2
    exact xor1_walk w0 w2 l1 l g k ns _ a b hs2 hn h0 ha hb
  · rintro e w4 ⟨rfl, hs4⟩
    go_wp2_with fail
    go_ret2
    exact ⟨rfl, hs4.sel [0] 4⟩
end Go.Proofs.YtjllogellpfpkaaDoor
