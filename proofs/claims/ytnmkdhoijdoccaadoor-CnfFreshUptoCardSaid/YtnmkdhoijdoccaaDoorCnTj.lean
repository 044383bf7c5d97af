/- The reference's Tidy. -/
import Derived.Test.YtnmkdhoijdoccaaDoorCnTr
import Derived.Test.YtnmkdhoijdoccaaDoorCnCt
set_option linter.unusedVariables false
set_option linter.unusedSimpArgs false
namespace Go.Proofs.YtnmkdhoijdoccaaDoor
open Go Go.RowKit SL

set_option maxRecDepth 100000 in
set_option maxHeartbeats 8000000 in
theorem rtidy_walk (w0 w : World) (l : List HP) (h : SL.St w0 l w) (vars : Int) (hv : I64 vars) (vf : Value) (cls : List (List Int)) (hr : Ent l (Rd2 (cInt .i64) vf cls)) (hI : ∀ c ∈ cls, ∀ x ∈ c, I64 x) :
    Calls Tryd.prog 12 #[.agg #[.int .i64 vars, vf]] w fun e w' => ∃ v', e = .returned (.tuple #[.agg #[.int .i64 (tidyM vars cls).1, v'], .int .i64 (tidyM vars cls).2.2]) ∧ SL.St w0 (Arr2 (cInt .i64) 3 51 v' (tidyM vars cls).2.1 :: l) w' := by
  obtain ⟨A, c, rfl, hm, -⟩ := (hr.use h).at
  unfold maxLen at hm
  have h1 := (h.alloc (.cells #[.int .i64 vars, .slice A cls.length c] 24)).alloc (.cells #[.int .i64 0, .slice none 0 0] 24)
  simp only [World.size_alloc] at h1
  have cw := rcheck_walk w0 _ _ h1 vars hv (.slice A cls.length c) cls (Ent.tail (Ent.tail hr)) hI
  have hcv := checkM_vals vars cls
  have hcok := @checkM_ok vars cls
  have hU : tidyM vars cls = if (checkM vars cls).2 ≠ 0 then (0, [], (checkM vars cls).2) else (vars, tidM cls, 0) := rfl
  generalize tidyM vars cls = U at *
  generalize checkM vars cls = C at *
  obtain ⟨place, er⟩ := C
  simp only at cw hcv hU hcok
  have HU := Lib.hid hU; clear hU
  obtain ⟨hc1, hc2⟩ := hcv
  have HR := Lib.hid hr
  have a0 := (h1.pull 1).cell 0
  have a1 := (h1.pull 1).cell 1
  clear hr
  go_enter Tryd.func12, Tryd.ntmps12
  go_wp2_with fail
  refine cw.mono ?_
  rintro e w1 ⟨rfl, h2⟩
  generalize w.heap.size = B at *
  clear cw h h1 a0 a1
  have k0 : w1.cell? ⟨B + 1, 0, none⟩ = some (.int .i64 0) := h2.cell 0
  have k1 : w1.cell? ⟨B + 1, 1, none⟩ = some (.slice none 0 0) := h2.cell 1
  have kf0 : w1.frozen? ⟨B + 1, 0, none⟩ = false := h2.free 0
  have kf1 : w1.frozen? ⟨B + 1, 1, none⟩ = false := h2.free 1
  by_cases e0 : er = 0
  · subst e0
    obtain ⟨v1, v2, v3, hlits⟩ := hcok rfl
    have HU2 := Lib.hid (HU.out.trans (if_neg (by simp))); clear HU
    have g0 : w1.cell? ⟨B, 0, none⟩ = some (.int .i64 vars) := (h2.pull 1).cell 0
    have g1 : w1.cell? ⟨B, 1, none⟩ = some (.slice A cls.length c) := (h2.pull 1).cell 1
    have hLL : ∀ x ∈ cls, x.length ≤ 1048576 ∧ ∀ y ∈ x, litOk y = true := fun x hx => ⟨by have := (hlits x hx).1; omega, fun y hy => ((hlits x hx).2 y hy).1⟩
    clear hcok hlits
    obtain ⟨S, hS⟩ : ∃ S : World → Prop, S = fun w' => w'.cell? ⟨B, 0, none⟩ = some (.int .i64 vars) ∧ w'.cell? ⟨B, 1, none⟩ = some (.slice A cls.length c) := ⟨_, rfl⟩
    have rk0 : ∀ w' : World, SL.Hd S w' → w'.cell? ⟨B, 0, none⟩ = some (.int .i64 vars) := fun w' h => by unfold SL.Hd at h; rw [hS] at h; exact h.1
    have rk1 : ∀ w' : World, SL.Hd S w' → w'.cell? ⟨B, 1, none⟩ = some (.slice A cls.length c) := fun w' h => by unfold SL.Hd at h; rw [hS] at h; exact h.2
    have hx0 : SL.Hd S w1.drew := by unfold SL.Hd; rw [hS]; exact ⟨g0, g1⟩
    have mkS : ∀ (v : Value) (xs : List (List Int)) (w' : World), SL.St w0 (Arr2 (cInt .i64) 3 51 v xs :: Blk (B + 1) (.cells #[.int .i64 0, .slice none 0 0] 24 (0, 0)) :: Blk B (.cells #[.int .i64 vars, .slice A cls.length c] 24 (0, 0)) :: l) w' → SL.Hd S w' := fun v xs w' h => by unfold SL.Hd; rw [hS]; exact ⟨(h.pull 2).cell 0, (h.pull 2).cell 1⟩
    have HS := Lib.hid hS; clear hS
    have TW := rtid_walk w0 w1.drew _ h2.drew (.slice A cls.length c) cls (Ent.tail (Ent.tail HR.out)) hLL (by omega)
    clear g0 g1 k0 k1 kf0 kf1
    go_wp2_with fail
    -- region 4 of cadence/cadenceref02.Tidy: 0:fieldAddr 1:load 2:fieldAddr 3:load 4:call fn 5:build 6:store 7:assign
    refine wp_region_plan (SL.Hd S) [(0, 0), (1, 1), (2, 1), (3, 1), (4, 2)] 5 (by kernel_rfl) (by kernel_rfl) ?_
    iterate 1 (first | (refine plan_skip rfl rfl ?_; simp only [Act.put, List.setIfInBounds_toArray, List.set_cons_zero, List.set_cons_succ]) | (refine plan_pure (v := ?_) rfl rfl (fun _ => ?_) ?_; rotate_left; (focus (go_simp; try with_reducible rfl; done)); simp only [Act.put, List.setIfInBounds_toArray, List.set_cons_zero, List.set_cons_succ]))
    iterate 3 (first | (refine plan_held_skip rfl rfl (by assumption) ?_; simp only [Act.put, List.setIfInBounds_toArray, List.set_cons_zero, List.set_cons_succ]) | (refine plan_held (v := ?_) rfl rfl (fun _ hSw => ?_) (by assumption) ?_; rotate_left; (focus (go_simp; try with_reducible rfl; done)); simp only [Act.put, List.setIfInBounds_toArray, List.set_cons_zero, List.set_cons_succ]))
    ((refine plan_eff rfl (fun K hK => ?_)); go_simp; (refine TW.mono ?_); (rintro e w7 ⟨v7, rfl, hs7⟩); (refine hK _ _ ⟨mkS _ _ _ hs7, ?_⟩); clear hK K)
    refine plan_end ?_
    simp only [List.drop]
    clear rk0 rk1 hx0 mkS TW h2
    obtain ⟨A7, c7, rfl, -, -⟩ := hs7.rd2.at
    have k0 : w7.cell? ⟨B + 1, 0, none⟩ = some (.int .i64 0) := (hs7.pull 1).cell 0
    have k1 : w7.cell? ⟨B + 1, 1, none⟩ = some (.slice none 0 0) := (hs7.pull 1).cell 1
    have kf0 : w7.frozen? ⟨B + 1, 0, none⟩ = false := (hs7.pull 1).free 0
    have kf1 : w7.frozen? ⟨B + 1, 1, none⟩ = false := (hs7.pull 1).free 1
    have hs := ((hs7.pull 1).set 0 (.int .i64 vars)).set 1 (.slice A7 (tidM cls).length c7)
    generalize tidM cls = GL at *
    go_wp2_with (refine NoPanic.normal ?_)
    generalize World.setCell _ _ _ = wz at hs ⊢
    have b0 := hs.cell 0
    have b1 := hs.cell 1
    refine bodyPost_ret (v := .tuple #[.agg #[.int .i64 vars, .slice A7 GL.length c7], .int .i64 0]) (by simp [results, Tryd.results12, go_sem, b0, b1]) rfl ⟨_, by rw [HU2.out], ?_⟩
    rw [HU2.out]
    exact hs.sel [1] 2
  · have d0 : (er != 0) = true := by simp [e0]
    have HU2 := Lib.hid (HU.out.trans (if_pos e0)); clear HU e0 hcok
    have hs := (h2.set 0 (.int .i64 0)).set 1 (.slice none 0 0)
    go_wp2_with fail
    generalize World.setCell _ _ _ = wz at hs ⊢
    have b0 := hs.cell 0
    have b1 := hs.cell 1
    refine bodyPost_ret (v := .tuple #[.agg #[.int .i64 0, .slice none 0 0], .int .i64 er]) (by simp [results, Tryd.results12, go_sem, b0, b1]) rfl ⟨_, by rw [HU2.out], ?_⟩
    rw [HU2.out]
    exact (hs.drop.drop).nil2 (cInt .i64) 3 51
end Go.Proofs.YtnmkdhoijdoccaaDoor
