/- Mux, All. -/
import Derived.Test.YtjllogellpfpkaaDoorAigE
set_option linter.unusedVariables false
set_option linter.unusedSimpArgs false
namespace Go.Proofs.YtjllogellpfpkaaDoor
open Go Go.RowKit SL

/-- The variables that Mux's closure has taken. -/
theorem caps4 {w0 w : World} {l1 l : List HP} {g k : Nat} {ns : List (Nat × Nat)} {a b c : Nat} {z : HP}
    (h : SL.St w0 (Graph g ns :: (l1 ++ (z :: Blk (k + 1 + 1 + 1) (.cells #[.int .u32 (b : Nat)] 32 (0, 0)) :: Blk (k + 1 + 1) (.cells #[.int .u32 (a : Nat)] 32 (0, 0)) :: Blk (k + 1) (.cells #[.int .u32 (c : Nat)] 32 (0, 0)) :: Blk k (.cells #[.pointer (some ⟨g, 0, none⟩)] 24 (0, 0)) :: l))) w) :
    w.cell? ⟨k, 0, none⟩ = some (.pointer (some ⟨g, 0, none⟩)) ∧ w.cell? ⟨k + 1, 0, none⟩ = some (.int .u32 (c : Nat)) ∧ w.cell? ⟨k + 1 + 1, 0, none⟩ = some (.int .u32 (a : Nat)) ∧ w.cell? ⟨k + 1 + 1 + 1, 0, none⟩ = some (.int .u32 (b : Nat)) :=
  have h1 := h.drop.dropL
  ⟨(h1.pull 4).cell 0, (h1.pull 3).cell 0, (h1.pull 2).cell 0, (h1.pull 1).cell 0⟩
theorem muxM_eq {ns : List (Nat × Nat)} {c a b : Nat} (h : ¬ a = b) : muxM ns c a b = orM (andM (andM ns c a).2 (notL c) b).2 (andM ns c a).1 (andM (andM ns c a).2 (notL c) b).1 := by
  unfold muxM; rw [if_neg h]
theorem mux1_walk (w0 w : World) (l1 l : List HP) (g k : Nat) (ns : List (Nat × Nat)) (z : HP) (c a b : Nat)
    (hs : SL.St w0 (Graph g ns :: (l1 ++ (z :: Blk (k + 1 + 1 + 1) (.cells #[.int .u32 (b : Nat)] 32 (0, 0)) :: Blk (k + 1 + 1) (.cells #[.int .u32 (a : Nat)] 32 (0, 0)) :: Blk (k + 1) (.cells #[.int .u32 (c : Nat)] 32 (0, 0)) :: Blk k (.cells #[.pointer (some ⟨g, 0, none⟩)] 24 (0, 0)) :: l))) w)
    (hn : ns.length + 3 ≤ 1073741824) (h0 : ns.length ≠ 0) (hc : c < 2 * ns.length) (ha : a < 2 * ns.length) (hb : b < 2 * ns.length) :
    Calls Tryd.prog 79 #[.pointer (some ⟨k + 1 + 1, 0, none⟩), .pointer (some ⟨k + 1 + 1 + 1, 0, none⟩), .pointer (some ⟨k, 0, none⟩), .pointer (some ⟨k + 1, 0, none⟩)] w fun e w' =>
      e = .returned (.int .u32 ((muxM ns c a b).1 : Nat)) ∧ SL.St w0 (Graph g (muxM ns c a b).2 :: (l1 ++ (z :: Blk (k + 1 + 1 + 1) (.cells #[.int .u32 (b : Nat)] 32 (0, 0)) :: Blk (k + 1 + 1) (.cells #[.int .u32 (a : Nat)] 32 (0, 0)) :: Blk (k + 1) (.cells #[.int .u32 (c : Nat)] 32 (0, 0)) :: Blk k (.cells #[.pointer (some ⟨g, 0, none⟩)] 24 (0, 0)) :: l))) w' := by
  obtain ⟨c0, c1, c2, c3⟩ := caps4 hs
  by_cases hab : a = b
  · have e1 : ((a : Int) == (b : Int)) = true := by simp [hab]
    have hM : muxM ns c a b = (a, ns) := by unfold muxM; rw [if_pos hab]
    clear hab
    have HM := Lib.hid hM; clear hM
    go_enter Tryd.func79, Tryd.ntmps79
    go_wp2_with fail
    go_ret
    rw [HM.out]
    exact ⟨rfl, hs⟩
  have e1 : ((a : Int) == (b : Int)) = false := by simp; omega
  have HM := Lib.hid (muxM_eq (ns := ns) (c := c) hab)
  have nc := notL_lt2 hc
  have p1 := andM_lt ns c a h0 hc ha
  have p2 := andM_lt (andM ns c a).2 (notL c) b (by omega) (by omega) (by omega)
  clear hab
  go_enter Tryd.func79, Tryd.ntmps79
  go_wp2_with fail
  refine (and_walk w0 _ _ g ns hs (by omega) h0 c a (by omega) (by omega)).mono ?_
  rintro e w1 ⟨rfl, hs1⟩
  obtain ⟨d0, d1, d2, d3⟩ := caps4 hs1
  have r0 := Ext.rule d0
  have r1 := Ext.rule d1
  have r3 := Ext.rule d3
  go_wp2_with fail
  -- region 4 of (*cadence/aig.Graph).Mux$1: 0:load 1:load 2:call fn 3:load 4:call fn 5:assign
  refine wp_region_plan (Ext w1) [(0, 1), (1, 1), (3, 1), (2, 2)] 4 (by kernel_rfl) (by kernel_rfl) ?_
  have hx0 : Ext w1 w1.drew := Ext.refl w1
  iterate 3 (first | (refine plan_held_skip rfl rfl (by assumption) ?_; simp only [Act.put, List.setIfInBounds_toArray, List.set_cons_zero, List.set_cons_succ]) | (refine plan_held (v := ?_) rfl rfl (fun _ hSw => ?_) (by assumption) ?_; rotate_left; (focus (go_simp; try with_reducible rfl; done)); simp only [Act.put, List.setIfInBounds_toArray, List.set_cons_zero, List.set_cons_succ]))
  ((refine plan_eff rfl (fun K hK => ?_)); go_simp; (refine (not_walk _ c (by omega)).mono ?_); (rintro e w' ⟨rfl, rfl⟩); (refine hK _ _ ⟨by assumption, ?_⟩); clear hK K)
  refine plan_end ?_
  simp only [List.drop]
  go_wp2_with fail
  refine (and_walk w0 _ _ g _ hs1.drew (by omega) (by omega) (notL c) b (by omega) (by omega)).mono ?_
  rintro e w2 ⟨rfl, hs2⟩
  obtain ⟨d0', -, -, -⟩ := caps4 hs2
  go_wp2_with (refine NoPanic.normal ?_)
  refine (or_walk w0 _ _ g _ hs2 (by omega) (by omega) _ _ (by omega) (by omega)).mono ?_
  rintro e w3 ⟨rfl, hs3⟩
  go_wp2_with fail
  go_ret
  rw [HM.out]
  exact ⟨rfl, hs3⟩

theorem Mux_walk (w0 w : World) (l : List HP) (g : Nat) (ns : List (Nat × Nat)) (h : SL.St w0 (Graph g ns :: l) w) (hn : ns.length + 3 ≤ 1073741824) (h0 : ns.length ≠ 0) (c a b : Nat) (hc : c < 2 * ns.length) (ha : a < 2 * ns.length) (hb : b < 2 * ns.length) :
    Calls Tryd.prog 32 #[.pointer (some ⟨g, 0, none⟩), .int .u32 (c : Nat), .int .u32 (a : Nat), .int .u32 (b : Nat)] w fun e w' =>
      e = .returned (.tuple #[.int .u32 ((muxM ns c a b).1 : Nat), .int .i64 0]) ∧ SL.St w0 (Graph g (muxM ns c a b).2 :: l) w' := by
  have hmf : ∀ (fn : Fn) (first cap : Array Value) (w : World), (Instr.makeFunc fn first cap).run Tryd.prog w = .ok (.func fn first cap) w := fun _ _ _ _ => rfl
  go_enter Tryd.func32, Tryd.ntmps32
  go_wp2_with fail
  have hs1 := ((((h.alloc (.cells #[.pointer (some ⟨g, 0, none⟩)] 24)).alloc (.cells #[.int .u32 (c : Nat)] 32)).alloc (.cells #[.int .u32 (a : Nat)] 32)).alloc (.cells #[.int .u32 (b : Nat)] 32)).alloc (.cells #[.int .u32 (c : Nat), .int .u32 (a : Nat), .int .u32 (b : Nat)] 32)
  simp only [World.size_alloc] at hs1
  generalize hk : w.heap.size = k at *
  generalize (((((w.alloc _).alloc _).alloc _).alloc _).alloc _) = w1 at hs1 ⊢
  refine (checked_walk w0 w1 _ g ns (muxM ns c a b).2 (muxM ns c a b).1 79 _ (hs1.pull 5) (by omega) (fun _ => by kernel_rfl) ?_ _ [c, a, b] (hs1.rd_blk _ _ rfl rfl (by unfold maxLen; simp)) (by simp [ha, hb, hc])).mono ?_
  · intro l1 w2 hs2
    exact mux1_walk w0 w2 l1 l g k ns _ c a b hs2 hn h0 hc ha hb
  · rintro e w4 ⟨rfl, hs4⟩
    go_wp2_with fail
    go_ret2
    exact ⟨rfl, hs4.sel [0] 5⟩

theorem allFrom_snoc (x : Nat) (ns : List (Nat × Nat)) (l : List Nat) (y : Nat) : allFrom x ns (l ++ [y]) = andM (allFrom x ns l).2 (allFrom x ns l).1 y := by
  induction l generalizing x ns with
  | nil => simp [allFrom]
  | cons z l ih => simp [allFrom, ih]
theorem allM_snoc (ns : List (Nat × Nat)) (l : List Nat) (y : Nat) (h : l ≠ []) : allM ns (l ++ [y]) = andM (allM ns l).2 (allM ns l).1 y := by
  cases l with
  | nil => exact absurd rfl h
  | cons z l => exact allFrom_snoc z ns l y

set_option maxHeartbeats 400000 in
theorem all1_walk (w0 w : World) (l1 l : List HP) (g k : Nat) (ns : List (Nat × Nat)) (v : Value) (xs : List Nat)
    (hs : SL.St w0 (Graph g ns :: (l1 ++ (Blk (k + 1) (.cells #[v] 29 (0, 0)) :: Blk k (.cells #[.pointer (some ⟨g, 0, none⟩)] 24 (0, 0)) :: l))) w) (hr : Ent l (Rd (cNat .u32) v xs))
    (hn : ns.length + xs.length ≤ 1073741824) (h0 : ns.length ≠ 0) (hx : ∀ y ∈ xs, y < 2 * ns.length) :
    Calls Tryd.prog 80 #[.pointer (some ⟨k + 1, 0, none⟩), .pointer (some ⟨k, 0, none⟩)] w fun e w' =>
      e = .returned (.int .u32 ((allM ns xs).1 : Nat)) ∧ SL.St w0 (Graph g (allM ns xs).2 :: (l1 ++ (Blk (k + 1) (.cells #[v] 29 (0, 0)) :: Blk k (.cells #[.pointer (some ⟨g, 0, none⟩)] 24 (0, 0)) :: l))) w' := by
  have c1 : w.cell? ⟨k + 1, 0, none⟩ = some v := hs.drop.dropL.cell 0
  obtain ⟨A, c, hv, hm, -⟩ := hr.use hs.drop.dropL.drop.drop
  subst hv
  unfold maxLen at hm
  go_enter Tryd.func80, Tryd.ntmps80
  go_wp2_with fail
  clear c1
  go_loopw [3, 4, 8] (fun x _ i wr => ∃ j : Nat, j ≤ xs.length ∧ i = .int .i64 j ∧ x = .int .u32 ((allM ns (xs.take j)).1 : Nat) ∧
      SL.St w0 (Graph g (allM ns (xs.take j)).2 :: (l1 ++ (Blk (k + 1) (.cells #[.slice A xs.length c] 29 (0, 0)) :: Blk k (.cells #[.pointer (some ⟨g, 0, none⟩)] 24 (0, 0)) :: l))) wr) (fun _ _ i _ => xs.length - (intOf i).toNat)
  case atStart => exact ⟨0, Nat.zero_le _, rfl, rfl, hs⟩
  case round =>
    obtain ⟨j, hj, rfl, rfl, hsr⟩ := hrel
    by_cases hlt : j < xs.length
    · obtain ⟨A', c', hv, -, hc⟩ := hr.use hsr.drop.dropL.drop.drop
      obtain ⟨ad, hA', hcell⟩ := rd_at hc j hlt
      have hA : A = some ad := by
        have : A' = A := by injection hv with h1; exact h1.symm
        rw [← this]; exact hA'
      subst hA
      have hyl := hx _ (List.getElem_mem hlt)
      have htk : ∀ y ∈ xs.take j, y < 2 * ns.length := fun y hy => hx y (List.mem_of_mem_take hy)
      have p := allM_lt ns (xs.take j) h0 htk
      rw [show (xs.take j).length = j from by simp; omega] at p
      have HT := Lib.hid (List.take_succ_eq_append_getElem hlt)
      have ck : wr.cell? ⟨k, 0, none⟩ = some (.pointer (some ⟨g, 0, none⟩)) := hsr.drop.dropL.drop.cell 0
      clear hc hv hA' hx htk
      generalize hxk : xs[j] = y at *
      clear hxk
      by_cases hj0 : j = 0
      · have e1 : ((j : Int) == 0) = true := by simp [hj0]
        have HJ := Lib.hid hj0; clear hj0
        go_wp2_with fail
        go_roundw
        case rel =>
          have h2 : allM ns (xs.take (j + 1)) = (y, ns) := by rw [HT.out, HJ.out]; rfl
          have h3 : allM ns (xs.take j) = (1, ns) := by rw [HJ.out]; rfl
          rw [h3] at hsr
          exact ⟨j + 1, by omega, by go_num, by rw [h2], by rw [h2]; exact hsr⟩
        case measure => simp [intOf]; omega
      · have e1 : ((j : Int) == 0) = false := by simp; omega
        have HJ := Lib.hid hj0; clear hj0
        go_wp2_with fail
        refine (and_walk w0 _ _ g _ hsr (by omega) (by omega) (allM ns (xs.take j)).1 y (by omega) (by omega)).mono ?_
        rintro e w2 ⟨rfl, hs2⟩
        go_wp2_with fail
        go_roundw
        case rel =>
          have hne : xs.take j ≠ [] := by
            intro e; have h1 := congrArg List.length e; rw [show (xs.take j).length = j from by simp; omega] at h1; exact HJ.out h1
          exact ⟨j + 1, by omega, by go_num, by rw [HT.out, allM_snoc _ _ _ hne], by rw [HT.out, allM_snoc _ _ _ hne]; exact hs2⟩
        case measure => simp [intOf]; omega
    · obtain rfl : j = xs.length := by omega
      rw [List.take_length] at hsr
      go_wp2_with fail
      go_ret
      exact ⟨by simp, hsr⟩

theorem All_walk (w0 w : World) (l : List HP) (g : Nat) (ns : List (Nat × Nat)) (v : Value) (xs : List Nat) (h : SL.St w0 (Graph g ns :: l) w) (hr : Ent l (Rd (cNat .u32) v xs)) (hn : ns.length + xs.length ≤ 1073741824) (h0 : ns.length ≠ 0) (hx : ∀ y ∈ xs, y < 2 * ns.length) :
    Calls Tryd.prog 33 #[.pointer (some ⟨g, 0, none⟩), v] w fun e w' =>
      e = .returned (.tuple #[.int .u32 ((allM ns xs).1 : Nat), .int .i64 0]) ∧ SL.St w0 (Graph g (allM ns xs).2 :: l) w' := by
  have hmf : ∀ (fn : Fn) (first cap : Array Value) (w : World), (Instr.makeFunc fn first cap).run Tryd.prog w = .ok (.func fn first cap) w := fun _ _ _ _ => rfl
  obtain ⟨A, c, hv, hm, -⟩ := hr.use h.drop
  subst hv
  go_enter Tryd.func33, Tryd.ntmps33
  go_wp2_with fail
  have hs1 := (h.alloc (.cells #[.pointer (some ⟨g, 0, none⟩)] 24)).alloc (.cells #[.slice A xs.length c] 29)
  simp only [World.size_alloc] at hs1
  generalize hk : w.heap.size = k at *
  generalize ((w.alloc _).alloc _) = w1 at hs1 ⊢
  refine (checked_walk w0 w1 _ g ns (allM ns xs).2 (allM ns xs).1 80 _ (hs1.pull 2) (by omega) (fun _ => by kernel_rfl) ?_ _ xs (hr.use hs1.drop.drop.drop) hx).mono ?_
  · intro l1 w2 hs2
    exact all1_walk w0 w2 l1 l g k ns _ xs hs2 hr hn h0 hx
  · rintro e w4 ⟨rfl, hs4⟩
    go_wp2_with fail
    go_ret2
    exact ⟨rfl, hs4.sel [0] 2⟩
end Go.Proofs.YtjllogellpfpkaaDoor
