/- A word of a line: both readers. -/
import Derived.Test.YtnmkdhoijdoccaaDoorCnNp
import Derived.Test.YtnmkdhoijdoccaaDoorCnFr0
import Derived.Test.YtnmkdhoijdoccaaDoorCnA
import Derived.Test.YtnmkdhoijdoccaaDoorCnB
import Derived.Test.YtnmkdhoijdoccaaDoorCnH
import Derived.Test.YtnmkdhoijdoccaaDoorOrd
set_option linter.unusedVariables false
set_option linter.unusedSimpArgs false
namespace Go.Proofs.YtnmkdhoijdoccaaDoor
open Go Go.RowKit SL

def cellsP (s : Rst) (vc vo : Value) : Array Value := #[.int .i64 s.vars, vc, .bool s.begun, .int .i64 s.many, .int .i64 s.lits, vo, .bool s.inner]
def cellsR (s : Rst) (vc vo : Value) : Array Value := #[.int .i64 s.vars, vc, vo, .int .i64 s.many, .int .i64 s.lits, .bool s.begun, .bool s.inner]
/-- The reader's block, its clauses, the clause that is open. -/
def RP (w0 : World) (R : Nat) (s : Rst) (l : List HP) (w : World) : Prop := ∃ vc vo qs, qs.map Prod.snd = s.cls ∧ SL.St w0 (Blk R (.cells (cellsP s vc vo) 92 (0, 0)) :: Ref vc qs :: Pool qs :: Arr (cInt .i64) 3 vo s.opn :: l) w

set_option maxRecDepth 100000 in
set_option maxHeartbeats 4000000 in
theorem word_walk (w0 w : World) (l : List HP) (R : Nat) (s : Rst) (hok : s.Ok) (h : RP w0 R s l w) (x : ByteArray) :
    Calls Tryd.prog 52 #[.pointer (some ⟨R, 0, none⟩), .string x] w fun e w' => e = .returned (.int .i64 (wordM s x).2) ∧ RP w0 R (wordM s x).1 l w' := by
  obtain ⟨vc, vo, qs, hq, h⟩ := h
  obtain ⟨k1, k2, k3, k4, k5⟩ := hok
  have hU : wordM s x = if (numM x true).2 = false then (s, 3) else if (s.cls.length : Int) = s.many then (s, 23) else
    if (numM x true).1 = 0 then ({ s with cls := s.cls ++ [s.opn], opn := [], inner := false }, 0) else
    if s.opn.length = 65536 then (s, 22) else if s.vars < varM (numM x true).1 then (s, 20) else if s.lits = 4194304 then (s, 23) else
    ({ s with opn := s.opn ++ [(numM x true).1], inner := true, lits := s.lits + 1 }, 0) := rfl
  have hsm := numM_small x true
  have NW := fun (w' : World) (l' : List HP) (h : SL.St w0 l' w') => number_walk w0 w' l' h x true
  generalize wordM s x = U at hU ⊢
  generalize numM x true = N at *
  obtain ⟨n, okb⟩ := N
  obtain ⟨V, C, bg, M, Lt, O, inn⟩ := s
  simp only at hU hsm NW hq k1 k2 k3 k4 k5 h
  unfold cellsP at h
  simp only at h
  have hql : C.length = qs.length := by rw [← hq, List.length_map]
  obtain ⟨Ac, cc, rfl, -⟩ := SL.St.ref_form (h.pull 1)
  obtain ⟨Ao, co, rfl, -, -⟩ := (h.pull 3).rd
  have SW := fun w => size_walk w n (by omega) (by omega)
  rw [hql] at hU k1
  have HU := Lib.hid hU; clear hU hql
  have HQ := Lib.hid hq; clear hq
  go_enter Tryd.func52, Tryd.ntmps52
  go_wp2_with fail
  refine (NW _ _ h).mono ?_
  rintro e w1 ⟨rfl, h1⟩
  clear NW h
  have h := h1
  clear h1
  cases okb with
  | false =>
    have HU2 := Lib.hid (HU.out.trans (if_pos rfl)); clear HU
    go_wp2_with fail
    go_ret
    rw [HU2.out]
    exact ⟨rfl, _, _, qs, HQ.out, h⟩
  | true =>
    have HU2 := Lib.hid (HU.out.trans (if_neg (by decide))); clear HU
    have c1 : w1.cell? ⟨R, 1, none⟩ = some (.slice Ac qs.length cc) := h.cell 1
    have c3 : w1.cell? ⟨R, 3, none⟩ = some (.int .i64 M) := h.cell 3
    by_cases e0 : (qs.length : Int) = M
    · have HU3 := Lib.hid (HU2.out.trans (if_pos e0)); clear HU2
      have d0 : ((qs.length : Int) == M) = true := by simp [e0]
      clear e0
      go_wp2_with fail
      go_quiet (fail)
      go_wp2_with fail
      go_ret
      rw [HU3.out]
      exact ⟨rfl, _, _, qs, HQ.out, h.drewN _⟩
    have HU3 := Lib.hid (HU2.out.trans (if_neg e0)); clear HU2
    have d0 : ((qs.length : Int) == M) = false := by simp [e0]
    have hlen : qs.length ≤ 1048576 := by omega
    clear e0 k1
    go_wp2_with fail
    go_quiet (fail)
    have h2 := h.drewN nq
    generalize World.drewN _ nq = wq at h2 ⊢
    clear h c1 c3 d0
    have c1 : wq.cell? ⟨R, 1, none⟩ = some (.slice Ac qs.length cc) := h2.cell 1
    have c5 : wq.cell? ⟨R, 5, none⟩ = some (.slice Ao O.length co) := h2.cell 5
    by_cases e1 : n = 0
    · subst e1
      have HU4 := Lib.hid (HU3.out.trans (if_pos rfl)); clear HU3
      obtain ⟨S, hS⟩ : ∃ S : World → Prop, S = fun w' => w'.cell? ⟨R, 1, none⟩ = some (.slice Ac qs.length cc) ∧ w'.cell? ⟨R, 5, none⟩ = some (.slice Ao O.length co) := ⟨_, rfl⟩
      have rk0 : ∀ w' : World, SL.Hd S w' → w'.cell? ⟨R, 1, none⟩ = some (.slice Ac qs.length cc) := fun w' h => by unfold SL.Hd at h; rw [hS] at h; exact h.1
      have rk1 : ∀ w' : World, SL.Hd S w' → w'.cell? ⟨R, 5, none⟩ = some (.slice Ao O.length co) := fun w' h => by unfold SL.Hd at h; rw [hS] at h; exact h.2
      have mkS : ∀ (w' : World) (l' : List HP), SL.St w0 (Blk R (.cells #[.int .i64 V, .slice Ac qs.length cc, .bool bg, .int .i64 M, .int .i64 Lt, .slice Ao O.length co, .bool inn] 92 (0, 0)) :: l') w' → SL.Hd S w' := fun w' l' h => by unfold SL.Hd; rw [hS]; exact ⟨h.cell 1, h.cell 5⟩
      have hx0 : SL.Hd S wq.drew := by unfold SL.Hd; rw [hS]; exact ⟨c1, c5⟩
      have HS := Lib.hid hS; clear hS
      have hb := h2.drew.alloc (.cells #[.slice Ao O.length co] 51)
      clear c1 c5
      go_wp2_with fail
      -- region 7 of (*cadence/cnf.reader).word: 0:move 1:move 2:nilCheck 3:fieldAddr 4:fieldAddr 5:load 6:move 7:nilCheck 8:fieldAddr 9:load 10:buildSlice 11:call append 12:nilCheck 13:fieldAddr 14:fieldAddr 15:store
      refine wp_region_plan (SL.Hd S) [(0, 0), (1, 0), (2, 0), (3, 0), (4, 0), (5, 1), (6, 1), (7, 1), (8, 1), (9, 1), (10, 2)] 11 (by kernel_rfl) (by kernel_rfl) ?_
      iterate 5 (first | (refine plan_skip rfl rfl ?_; simp only [Act.put, List.setIfInBounds_toArray, List.set_cons_zero, List.set_cons_succ]) | (refine plan_pure (v := ?_) rfl rfl (fun _ => ?_) ?_; rotate_left; (focus (go_simp; try with_reducible rfl; done)); simp only [Act.put, List.setIfInBounds_toArray, List.set_cons_zero, List.set_cons_succ]))
      iterate 5 (first | (refine plan_held_skip rfl rfl (by assumption) ?_; simp only [Act.put, List.setIfInBounds_toArray, List.set_cons_zero, List.set_cons_succ]) | (refine plan_held (v := ?_) rfl rfl (fun _ hSw => ?_) (by assumption) ?_; rotate_left; (focus (go_simp; try with_reducible rfl; done)); simp only [Act.put, List.setIfInBounds_toArray, List.set_cons_zero, List.set_cons_succ]))
      ((refine plan_eff rfl (fun K hK => ?_)); go_simp; (refine hK _ _ ⟨mkS _ _ (hb.pull 1), ?_⟩); clear hK K)
      refine plan_end ?_
      simp only [List.drop]
      clear rk0 rk1 hx0 HS h2
      go_wp2_with (at_builtin; (refine wpList_app (d := cSlc) (xs := qs.map Prod.fst) rfl _ _ rfl Tryd.underlying22 infoClause rfl (hb.pull 2) rfl (ys := ([(Ao, O.length, co)] : List Slc)) rfl (hb.rd_blk (d := cSlc) (ys := ([(Ao, O.length, co)] : List Slc)) 1 1 rfl rfl (by decide)) (by simp; omega) (by simp; omega) ?_); intro vn w7 h7; obtain ⟨An, cn, rfl, -, -⟩ := h7.rd; obtain ⟨Nn, hNn⟩ : ∃ N, N = List.length (α := Slc) (qs.map Prod.fst ++ [(Ao, O.length, co)]) := ⟨_, rfl⟩; rw [← hNn] at h7 ⊢; clear hNn; have h8 := SL.St.ref_snoc (x := O) h7; have h9 := SL.St.pool_snoc (s := ((Ao, O.length, co) : Slc)) (h8.sel [4, 3]); have h11 : SL.St w0 (Blk R (.cells #[.int .i64 V, .slice Ac qs.length cc, .bool bg, .int .i64 M, .int .i64 Lt, .slice Ao O.length co, .bool inn] 92 (0, 0)) :: Ref (.slice An Nn cn) (qs ++ [(((Ao, O.length, co) : Slc), O)]) :: Pool (qs ++ [(((Ao, O.length, co) : Slc), O)]) :: l) _ := h9.sel [3, 1, 0] 1; clear h7 h8 h9; have kf1 := h11.free 1; have kc1 := h11.cell 1; have kf2 := h11.free 5; have kc2 := h11.cell 5; have kf3 := h11.free 6; have kc3 := h11.cell 6)
      have hz := ((h11.set 1 (.slice An Nn cn)).set 5 (.slice none 0 0)).set 6 (.bool false)
      clear hb mkS
      refine NoPanic.normal ?_
      go_wp2_with fail
      go_ret
      rw [HU4.out]
      exact ⟨rfl, _, _, qs ++ [(((Ao, O.length, co) : Slc), O)], by rw [List.map_append, HQ.out]; rfl, (hz.rows_nil (cInt .i64) 3).sel [1, 2, 3, 0]⟩
    have HU4 := Lib.hid (HU3.out.trans (if_neg e1)); clear HU3
    have d1 : (n == 0) = false := by simp [e1]
    clear e1 c1
    by_cases e2 : O.length = 65536
    · have HU5 := Lib.hid (HU4.out.trans (if_pos e2)); clear HU4
      have d2 : ((O.length : Int) == 65536) = true := by rw [e2]; rfl
      clear e2
      go_wp2_with fail
      go_ret
      rw [HU5.out]
      exact ⟨rfl, _, _, qs, HQ.out, h2⟩
    have HU5 := Lib.hid (HU4.out.trans (if_neg e2)); clear HU4
    have d2 : ((O.length : Int) == 65536) = false := by rw [beq_eq_false_iff_ne]; omega
    have c0 : wq.cell? ⟨R, 0, none⟩ = some (.int .i64 V) := h2.cell 0
    clear e2
    go_wp2_with fail
    have hvm : varM n = varM n := rfl
    by_cases e3 : V < varM n
    · have HU6 := Lib.hid (HU5.out.trans (if_pos e3)); clear HU5
      generalize varM n = vn at *
      have d3 : decide (vn > V) = true := decide_eq_true (by omega)
      have d3' : decide (V < vn) = true := decide_eq_true (by omega)
      clear hvm e3
      go_quiet ((go_at_call 47; exact Calls.quiet_of_same (SW _)))
      go_wp2_with fail
      go_ret
      rw [HU6.out]
      exact ⟨rfl, _, _, qs, HQ.out, h2.drewN _⟩
    have HU6 := Lib.hid (HU5.out.trans (if_neg e3)); clear HU5
    generalize varM n = vn at *
    have d3 : decide (vn > V) = false := decide_eq_false (by omega)
    have d3' : decide (V < vn) = false := decide_eq_false (by omega)
    clear hvm e3
    go_quiet ((go_at_call 47; exact Calls.quiet_of_same (SW _)))
    have h3 := h2.drewN nq
    generalize World.drewN _ nq = wp at h3 ⊢
    clear h2 c0 c5 d3 d3' SW
    have c4 : wp.cell? ⟨R, 4, none⟩ = some (.int .i64 Lt) := h3.cell 4
    by_cases e4 : Lt = 4194304
    · have HU7 := Lib.hid (HU6.out.trans (if_pos e4)); clear HU6
      have d4 : (Lt == 4194304) = true := by simp [e4]
      clear e4
      go_wp2_with fail
      go_ret
      rw [HU7.out]
      exact ⟨rfl, _, _, qs, HQ.out, h3⟩
    have HU7 := Lib.hid (HU6.out.trans (if_neg e4)); clear HU6
    have d4 : (Lt == 4194304) = false := by simp [e4]
    clear e4
    have c5 : wp.cell? ⟨R, 5, none⟩ = some (.slice Ao O.length co) := h3.cell 5
    have hb := h3.alloc (.cells #[.int .i64 n] 3)
    have ho : O.length ≤ 65536 := k3
    go_wp2_with (at_builtin; (refine wpList_app (d := cInt .i64) (xs := O) rfl _ _ rfl Tryd.underlying51 infoInt rfl (hb.pull 4) rfl (ys := ([n] : List Int)) rfl (hb.rd_blk (d := cInt .i64) (ys := ([n] : List Int)) 1 1 rfl rfl (by decide)) (by simp; omega) (by simp; omega) ?_); intro vn2 w7 h7; obtain ⟨An, cn, rfl, -, -⟩ := h7.rd; obtain ⟨Nn, hNn⟩ : ∃ N, N = List.length (α := Int) (O ++ [n]) := ⟨_, rfl⟩; rw [← hNn] at h7 ⊢; clear hNn; have h11 : SL.St w0 (Blk R (.cells #[.int .i64 V, .slice Ac qs.length cc, .bool bg, .int .i64 M, .int .i64 Lt, .slice Ao O.length co, .bool inn] 92 (0, 0)) :: Ref (.slice Ac qs.length cc) qs :: Pool qs :: Arr (cInt .i64) 3 (.slice An Nn cn) (O ++ [n]) :: l) _ := h7.sel [2, 3, 4, 0] 1; clear h7; have kf1 := h11.free 5; have kc1 := h11.cell 5; have kf2 := h11.free 6; have kc2 := h11.cell 6; have kf3 := h11.free 4; have kc3 := h11.cell 4)
    have hz := ((h11.set 5 (.slice An Nn cn)).set 6 (.bool true)).set 4 (.int .i64 (Lt + 1))
    go_ret
    rw [HU7.out]
    exact ⟨rfl, _, _, qs, HQ.out, hz⟩
end Go.Proofs.YtnmkdhoijdoccaaDoor
