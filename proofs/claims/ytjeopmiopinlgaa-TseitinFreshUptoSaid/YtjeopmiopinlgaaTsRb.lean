/- The reference's rooted. -/
import Derived.Test.YtjeopmiopinlgaaTsE
import Derived.Test.YtjeopmiopinlgaaTsG
/- The reference's vars, lit, rooted. -/
set_option linter.unusedVariables false
set_option linter.unusedSimpArgs false
namespace Go.Proofs.Ytjeopmiopinlgaa
open Go Go.RowKit SL

theorem rlit12_walk (w : World) (v : Value) (vs : List Nat) (hr : Rd (cNat .i64) v vs w) (x : Nat) (hx : x / 2 < vs.length) (hb : x < 4294967296) (hv : ∀ i, vs.getD i 0 ≤ 1073741824) :
    Calls Try.prog 66 #[v, .int .u32 (x : Nat)] w fun e w' => w = w' ∧ e = .returned (.int .i64 (litT vs x)) := by
  obtain ⟨A, c, rfl, hm, hc⟩ := hr
  obtain ⟨ad, rfl, hcell⟩ := rd_at hc _ hx
  have hg : vs.getD (x / 2) 0 = vs[x / 2] := by simp [List.getD_eq_getElem?_getD, hx]
  have hvb := hv (x / 2)
  have HL : litT vs x = if x % 2 = 1 then -((vs.getD (x / 2) 0 : Nat) : Int) else (vs.getD (x / 2) 0 : Nat) := rfl
  rw [hg] at HL hvb
  have hq : ((x : Nat) : Int) / 2 = ((x / 2 : Nat) : Int) := by omega
  unfold maxLen at hm
  clear hc hg hv
  generalize litT vs x = L at *
  generalize vs[x / 2] = b at *
  generalize x / 2 = q at *
  by_cases ho : x % 2 = 1
  · have hm1 : (((x : Nat) : Int) % 2 == 1) = true := by
      have e : ((x : Int)) % 2 = ((x % 2 : Nat) : Int) := by omega
      rw [e, ho]; rfl
    rw [if_pos ho] at HL
    have HL := Lib.hid HL
    clear ho
    go_enter Try.func66, Try.ntmps66
    go_wp2
    go_ret
    rw [HL.out]
    exact ⟨rfl, rfl⟩
  · have hm1 : (((x : Nat) : Int) % 2 == 1) = false := by
      have e : ((x : Int)) % 2 = ((x % 2 : Nat) : Int) := by omega
      rw [e, show x % 2 = 0 by omega]; rfl
    rw [if_neg ho] at HL
    have HL := Lib.hid HL
    clear ho
    go_enter Try.func66, Try.ntmps66
    go_wp2
    go_ret
    rw [HL.out]
    exact ⟨rfl, rfl⟩

set_option maxRecDepth 100000 in
set_option maxHeartbeats 2000000 in
theorem rvars_walk (w0 w : World) (l : List HP) (r N : Nat) (ns : Nodes) (h : SL.St w0 (RGraph r (rnodes ns) N :: l) w) (hl : ns.length ≤ 1073741824) (vc : Value) (K : List Nat) (hk : Ent l (Rd (cNat .i64) vc K)) (hmem : ∀ m ∈ K, m < ns.length) :
    Calls Try.prog 65 #[.pointer (some ⟨r, 0, none⟩), vc] w fun e w' =>
      ∃ vv, e = .returned vv ∧ SL.St w0 (Arr (cNat .i64) 3 vv (varsM ns.length K) :: RGraph r (rnodes ns) N :: l) w' := by
  obtain ⟨Ac, cc, hv, hmc, -⟩ := hk.use h.drop
  subst hv
  unfold maxLen at hmc
  obtain ⟨Ag, cg, g0, -⟩ := rg_slice h
  have hmk := run_make_row' (P := Try.prog) 23 3 (.int .i64 0) 8 Try.underlying23 infoInt rfl .i64 .i64 ns.length (by omega) (by omega)
  have h2 := (h.alloc (.cells (madeCells #[Value.int .i64 0] ns.length) 3)).arr_made (d := cNat .i64) rfl (x := 0) rfl (by unfold maxLen; omega)
  go_enter Try.func65, Try.ntmps65
  go_wp2_with fail
  generalize w.heap.size = gs at h2 ⊢
  generalize (World.alloc w _) = w2 at h2 ⊢
  clear hmk h g0
  go_loopg [6] K.length (fun k i wr => ∃ j : Nat, j ≤ K.length ∧ k = K.length - j ∧ i = .int .i64 j ∧ SL.St w0 (Arr (cNat .i64) 3 (.slice (some ⟨gs, 0, none⟩) ns.length ns.length) (varsM ns.length (K.take j)) :: RGraph r (rnodes ns) N :: l) wr)
  case atStart => exact ⟨0, Nat.zero_le _, rfl, rfl, h2⟩
  case round =>
    clear h2
    obtain ⟨j, hj, hgk, rfl, hsr⟩ := hrel
    subst hgk
    by_cases hlt : j < K.length
    · obtain ⟨A', c', hv, -, hc⟩ := hk.use (hsr.sel [] 2)
      obtain ⟨ad, hA', hcell⟩ := rd_at hc j hlt
      obtain rfl : Ac = some ad := by
        have : A' = Ac := by injection hv with h1; exact h1.symm
        rw [← this]; exact hA'
      have hmj := hmem _ (List.getElem_mem hlt)
      have HT := Lib.hid (show varsM ns.length (K.take (j + 1)) = (varsM ns.length (K.take j)).set K[j] (j + 1) by
        rw [List.take_succ_eq_append_getElem hlt, varsM_snoc, List.length_take, Nat.min_eq_left hj])
      have hvl := varsM_length ns.length (K.take j)
      clear hc hv hA'
      generalize varsM ns.length (K.take j) = vs at *
      generalize K[j] = m at *
      have HVL := Lib.hid hvl; clear hvl
      obtain ⟨c0, c1⟩ := hsr.arr_cell1 rfl m _ (List.getElem?_eq_getElem (by rw [HVL.out]; exact hmj)) _ rfl
      have hset := hsr.arr_set1 rfl m (by rw [HVL.out]; exact hmj) (j + 1) _ rfl
      go_wp2_with fail
      go_roundg (K.length - (j + 1))
      case measure => omega
      case rel => exact ⟨j + 1, by omega, rfl, by go_num, by rw [HT.out]; exact hset⟩
    · obtain rfl : j = K.length := by omega
      rw [List.take_length] at hsr
      go_wp2_with fail
      go_ret
      exact ⟨_, rfl, hsr⟩
end Go.Proofs.Ytjeopmiopinlgaa
namespace Go.Proofs.Ytjeopmiopinlgaa.SL
open Go Go.RowKit
theorem St.push22 {α : Type} {d : Cd α} {w0 w : World} {l : List HP} {e eo : TypeId} {v : Value} {xss : List (List α)} {x1 x2 : List α} {ss : List Slc} {s1 s2 : Slc} (hl : ss.length = xss.length) (h : St w0 (Arr cSlc eo v (ss ++ [s1, s2]) :: (Inn d e ss xss ++ Arr d e s1.val x1 :: Arr d e s2.val x2 :: l)) w) : St w0 (Arr2 d e eo v (xss ++ [x1, x2]) :: l) w := by
  have e1 : ss ++ [s1, s2] = (ss ++ [s1]) ++ [s2] := by simp
  have e2 : xss ++ [x1, x2] = (xss ++ [x1]) ++ [x2] := by simp
  rw [e1] at h
  rw [e2]
  refine St.push2 (ss := ss ++ [s1]) (s := s2) (by simp [hl]) ?_
  rw [Inn.snoc d e s1 x1 ss xss hl]
  simpa [List.append_assoc] using h
end Go.Proofs.Ytjeopmiopinlgaa.SL
namespace Go.Proofs.Ytjeopmiopinlgaa
open Go Go.RowKit SL
/-- A formula, opened for appending. -/
theorem St.formOpen {w0 w : World} {l : List HP} {F n : Nat} {cls : List (List Int)} (h : SL.St w0 (Form F n cls :: l) w) : ∃ (ss : List Slc) (Af : Option Addr) (cf : Nat), ss.length = cls.length ∧
    SL.St w0 (Arr cSlc 60 (.slice Af cls.length cf) ss :: Blk F (.cells #[.int .i64 (n : Nat), .slice Af cls.length cf] 33 (0, 0)) :: (Inn (cInt .i64) 3 ss cls ++ l)) w := by
  obtain ⟨vf, h1⟩ := St.form h
  obtain ⟨ss, hsl, h2⟩ := SL.St.arr2 h1.swap
  obtain ⟨Af, cf, rfl, -, -⟩ := h2.rd
  refine ⟨ss, Af, cf, hsl, ?_⟩
  rw [hsl] at h2
  refine h2.perm ?_
  exact List.Perm.cons _ List.perm_middle
theorem St.formShut1 {w0 w : World} {l : List HP} {F n : Nat} {cls : List (List Int)} {c : List Int} {ss : List Slc} {s : Slc} {v : Value} (hsl : ss.length = cls.length)
    (h : SL.St w0 (Arr cSlc 60 v (ss ++ [s]) :: Blk F (.cells #[.int .i64 (n : Nat), v] 33 (0, 0)) :: Arr (cInt .i64) 3 s.val c :: (Inn (cInt .i64) 3 ss cls ++ l)) w) : SL.St w0 (Form F n (cls ++ [c]) :: l) w := by
  refine St.mkForm (vf := v) ((SL.St.push2 (s := s) hsl (SL.St.perm ?_ h)).swap)
  refine List.Perm.cons _ ?_
  refine (List.Perm.swap _ _ _).trans ?_
  exact (List.Perm.cons _ List.perm_middle.symm).trans List.perm_middle.symm
theorem St.formShut2 {w0 w : World} {l : List HP} {F n : Nat} {cls : List (List Int)} {c1 c2 : List Int} {ss : List Slc} {s1 s2 : Slc} {v : Value} (hsl : ss.length = cls.length)
    (h : SL.St w0 (Arr cSlc 60 v (ss ++ [s1, s2]) :: Blk F (.cells #[.int .i64 (n : Nat), v] 33 (0, 0)) :: Arr (cInt .i64) 3 s1.val c1 :: Arr (cInt .i64) 3 s2.val c2 :: (Inn (cInt .i64) 3 ss cls ++ l)) w) : SL.St w0 (Form F n (cls ++ [c1, c2]) :: l) w := by
  refine St.mkForm (vf := v) ((SL.St.push22 (s1 := s1) (s2 := s2) hsl (SL.St.perm ?_ h)).swap)
  refine List.Perm.cons _ ?_
  have p : ∀ (B A1 A2 : HP) (I L : List HP), (B :: A1 :: A2 :: (I ++ L)).Perm (I ++ A1 :: A2 :: B :: L) := fun B A1 A2 I L => by
    have q1 : (B :: A1 :: A2 :: (I ++ L)).Perm (A1 :: A2 :: B :: (I ++ L)) := (List.Perm.swap _ _ _).trans (List.Perm.cons _ (List.Perm.swap _ _ _))
    refine q1.trans ?_
    have q2 : (A1 :: A2 :: B :: (I ++ L)) = [A1, A2, B] ++ (I ++ L) := rfl
    rw [q2, ← List.append_assoc]
    exact (List.Perm.append_right L List.perm_append_comm).trans (by rw [List.append_assoc]; exact List.Perm.refl _)
  exact p _ _ _ _ _
end Go.Proofs.Ytjeopmiopinlgaa
set_option linter.unusedVariables false
set_option linter.unusedSimpArgs false
namespace Go.Proofs.Ytjeopmiopinlgaa
open Go Go.RowKit SL

theorem rootsCl_take_le' (vs : List Nat) (l : List Nat) (j : Nat) : (rootsCl vs (l.take j)).length ≤ (rootsCl vs l).length := by
  conv => rhs; rw [← List.take_append_drop j l]
  unfold rootsCl
  rw [List.flatMap_append, List.length_append]
  omega
set_option maxRecDepth 100000 in
set_option maxHeartbeats 8000000 in
theorem rooted_walk (w0 w : World) (l : List HP) (n : Nat) (vf : Value) (cls : List (List Int)) (h : SL.St w0 (Arr2 (cInt .i64) 3 60 vf cls :: l) w) (vv vr : Value) (vs roots : List Nat) (hv : Ent l (Rd (cNat .i64) vv vs)) (hr : Ent l (Rd (cNat .u32) vr roots))
    (hx : ∀ y ∈ roots, y / 2 < vs.length ∧ y < 4294967296) (hvb : ∀ i, vs.getD i 0 ≤ 1048576) (hcb : (cls ++ rootsCl vs roots).length ≤ 1073741824) :
    Calls Try.prog 67 #[.agg #[.int .i64 (n : Nat), vf], vv, vr] w fun e w' => ∃ vf', e = .returned (.agg #[.int .i64 (n : Nat), vf']) ∧ SL.St w0 (Arr2 (cInt .i64) 3 60 vf' (cls ++ rootsCl vs roots) :: l) w' := by
  obtain ⟨Ar, cr, hv1, hmr, -⟩ := hr.use h.drop
  subst hv1
  unfold maxLen at hmr
  obtain ⟨Av, cv, hv1, -, -⟩ := hv.use h.drop
  subst hv1
  obtain ⟨Af, cf, rfl, _⟩ := h.rd2.at
  have h1 := (h.alloc (.cells #[.int .i64 (n : Nat), .slice Af cls.length cf] 33)).alloc (.cells #[.int .i64 0, .slice none 0 0] 33)
  simp only [World.size_alloc] at h1
  have h2 : SL.St w0 (Form w.heap.size n cls :: Blk (w.heap.size + 1) (.cells #[.int .i64 0, .slice none 0 0] 33 (0, 0)) :: l) _ := St.mkForm (h1.sel [1, 2, 0])
  generalize hCE : cls ++ rootsCl vs roots = CE at *
  have HCE := Lib.hid hCE; clear hCE
  clear h h1
  go_enter Try.func67, Try.ntmps67
  go_wp2_with fail
  generalize hB : w.heap.size = B at *
  generalize hR : B + 1 = R at *
  generalize World.alloc (World.alloc w _) _ = w1 at h2 ⊢
  clear hB hR
  go_loopg [7] roots.length (fun k i wr => ∃ j : Nat, j ≤ roots.length ∧ k = roots.length - j ∧ i = .int .i64 j ∧ SL.St w0 (Form B n (cls ++ rootsCl vs (roots.take j)) :: Blk R (.cells #[.int .i64 0, .slice none 0 0] 33 (0, 0)) :: l) wr)
  case atStart => exact ⟨0, Nat.zero_le _, rfl, rfl, by simpa [rootsCl] using h2⟩
  case round =>
    clear h2
    obtain ⟨j, hj, hgk, rfl, hsr⟩ := hrel
    subst hgk
    by_cases hlt : j < roots.length
    · obtain ⟨A', c', hv1, -, hc⟩ := hr.use (hsr.sel [] 2)
      obtain ⟨ad, hA', hcell⟩ := rd_at hc j hlt
      obtain rfl : Ar = some ad := by
        have : A' = Ar := by injection hv1 with h1; exact h1.symm
        rw [← this]; exact hA'
      obtain ⟨hxj, hxj2⟩ := hx _ (List.getElem_mem hlt)
      have HT := Lib.hid (show cls ++ rootsCl vs (roots.take (j + 1)) = cls ++ rootsCl vs (roots.take j) ++ rootCl vs roots[j] by rw [List.take_succ_eq_append_getElem hlt, rootsCl_snoc, List.append_assoc])
      have hcb2 : (cls ++ rootsCl vs (roots.take j)).length ≤ 1073741824 := by
        have h1 := rootsCl_take_le' vs roots j
        have := hcb
        rw [← HCE.out, List.length_append] at this
        rw [List.length_append]
        omega
      clear hc hv1 hA'
      generalize cls ++ rootsCl vs (roots.take j) = cl at *
      have hrc : rootCl vs roots[j] = if roots[j] = 0 then [[]] else if roots[j] = 1 then [] else [[litT vs roots[j]]] := rfl
      generalize roots[j] = x at *
      generalize rootCl vs x = rc at *
      obtain ⟨ss, Af, cf, hsl, h3⟩ := St.formOpen hsr
      have f1 : wr.cell? ⟨B, 1, none⟩ = some (.slice Af cl.length cf) := (h3.pull 1).cell 1
      have HSL := Lib.hid hsl
      have hsb : ss.length ≤ 1073741824 := by omega
      clear hsl
      by_cases r0 : x = 0
      · have e0 : ((x : Int) == 0) = true := by simp [r0]
        rw [if_pos r0] at hrc
        have HR := Lib.hid hrc; clear hrc r0
        have h4 := (h3.alloc (.cells #[] 3)).alloc (.cells #[.slice (some ⟨wr.heap.size, 0, none⟩) 0 0] 60)
        simp only [World.size_alloc] at h4
        go_wp2_with (at_builtin; go_loud (refine wpList_app rfl _ _ rfl Try.underlying31 infoClause rfl (h4.pull 2) rfl (ys := ([(some (⟨wr.heap.size, 0, none⟩ : Addr), 0, 0)] : List Slc)) rfl (h4.rd_blk (d := cSlc) (ys := ([(some (⟨wr.heap.size, 0, none⟩ : Addr), 0, 0)] : List Slc)) 1 1 rfl rfl (by decide)) (by simp; omega) (by simp; omega) ?_); go_loud (intro vo' w7 h7); go_loud (obtain ⟨An', cn', rfl, _, _⟩ := h7.rd); go_loud (have g1' : w7.cell? ⟨B, 1, none⟩ = some (.slice Af cl.length cf) := (h7.pull 3).cell 1); go_loud (have f0' := (h7.pull 3).free 1))
        have h8 := (((h7.pull 3).set 1 (.slice An' (ss ++ [(some (⟨wr.heap.size, 0, none⟩ : Addr), 0, 0)]).length cn')).pull 3).arr_lit (d := cInt .i64) (n := 0) (xs := []) rfl rfl (by decide)
        have h9 := St.formShut1 (s := ((some (⟨wr.heap.size, 0, none⟩ : Addr), 0, 0) : Slc)) HSL.out (h8.sel [2, 1, 0] 1)
        simp only [List.length_append, List.length_singleton] at h9
        generalize w7.setCell _ _ = w8 at h9 ⊢
        go_roundg (roots.length - (j + 1))
        case measure => omega
        case rel => exact ⟨j + 1, by omega, rfl, by go_num, by rw [HT.out, HR.out]; exact h9⟩
      have e0 : ((x : Int) == 0) = false := by simp [r0]
      rw [if_neg r0] at hrc
      clear r0
      by_cases r1 : x = 1
      · have e1 : ((x : Int) == 1) = true := by simp [r1]
        rw [if_pos r1] at hrc
        have HR := Lib.hid hrc; clear hrc r1
        go_wp2_with fail
        go_roundg (roots.length - (j + 1))
        case measure => omega
        case rel => exact ⟨j + 1, by omega, rfl, by go_num, by rw [HT.out, HR.out, List.append_nil]; exact hsr⟩
      have e1 : ((x : Int) == 1) = false := by simp; omega
      rw [if_neg r1] at hrc
      clear r1
      have HR := Lib.hid hrc; clear hrc
      have ml := rlit12_walk wr.drew _ vs ((hv.use (hsr.sel [] 2)).drew) x hxj hxj2 (fun i => by have := hvb i; omega)
      generalize litT vs x = lr at *
      go_wp2_with fail
      have q0 := Ext.rule f1
      have q1 := Ext.rule hcell
      -- region 5 of cadence/cadenceref12.rooted: 0:fieldAddr 1:load 2:move 3:move 4:move 5:indexAddr 6:load 7:call fn 8:buildSlice 9:buildSlice 10:call append 11:fieldAddr 12:store
      refine wp_region_plan (Ext wr) [(0, 0), (1, 1), (2, 1), (3, 1), (4, 1), (5, 1), (6, 1), (7, 2), (8, 2), (9, 2)] 10 (by kernel_rfl) (by kernel_rfl) ?_
      have hx0 : Ext wr wr.drew := Ext.refl wr
      iterate 1 (first | (refine plan_skip rfl rfl ?_; simp only [Act.put, List.setIfInBounds_toArray, List.set_cons_zero, List.set_cons_succ]) | (refine plan_pure (v := ?_) rfl rfl (fun _ => ?_) ?_; rotate_left; (focus (go_simp; try with_reducible rfl; done)); simp only [Act.put, List.setIfInBounds_toArray, List.set_cons_zero, List.set_cons_succ]))
      iterate 6 (first | (refine plan_held_skip rfl rfl (by assumption) ?_; simp only [Act.put, List.setIfInBounds_toArray, List.set_cons_zero, List.set_cons_succ]) | (refine plan_held (v := ?_) rfl rfl (fun _ hSw => ?_) (by assumption) ?_; rotate_left; (focus (go_simp; try with_reducible rfl; done)); simp only [Act.put, List.setIfInBounds_toArray, List.set_cons_zero, List.set_cons_succ]))
      ((refine plan_eff rfl (fun K hK => ?_)); go_simp; (refine ml.mono ?_); (rintro e w' ⟨rfl, rfl⟩); (refine hK _ _ ⟨by assumption, ?_⟩); clear hK K)
      ((refine plan_eff rfl (fun K hK => ?_)); go_simp; (refine hK _ _ ⟨by repeat (first | exact Ext.refl _ | apply Ext.drew | apply Ext.alloc), ?_⟩); clear hK K)
      -- (Ext behind op 8)
      ((refine plan_eff rfl (fun K hK => ?_)); go_simp; (refine hK _ _ ⟨by repeat (first | exact Ext.refl _ | apply Ext.drew | apply Ext.alloc), ?_⟩); clear hK K)
      -- (Ext behind op 9)
      refine plan_end ?_
      simp only [List.drop]
      have h5 := ((h3.alloc (.cells #[.int .i64 lr] 3)).alloc (.cells #[.slice (some ⟨wr.heap.size, 0, none⟩) 1 1] 60)).drew
      simp only [World.size_alloc] at h5
      clear q0 q1 hx0 ml
      go_wp2_with (first | (refine NoPanic.normal ?_) | (at_builtin; go_loud (refine wpList_app rfl _ _ rfl Try.underlying31 infoClause rfl (h5.pull 2) rfl (ys := ([(some (⟨wr.heap.size, 0, none⟩ : Addr), 1, 1)] : List Slc)) rfl (h5.rd_blk (d := cSlc) (ys := ([(some (⟨wr.heap.size, 0, none⟩ : Addr), 1, 1)] : List Slc)) 1 1 rfl rfl (by decide)) (by simp; omega) (by simp; omega) ?_); go_loud (intro vo' w7 h7); go_loud (obtain ⟨An', cn', rfl, _, _⟩ := h7.rd); go_loud (have g1' : w7.cell? ⟨B, 1, none⟩ = some (.slice Af cl.length cf) := (h7.pull 3).cell 1); go_loud (have f0' := (h7.pull 3).free 1)))
      have h8 := (((h7.pull 3).set 1 (.slice An' (ss ++ [(some (⟨wr.heap.size, 0, none⟩ : Addr), 1, 1)]).length cn')).pull 3).arr_lit (d := cInt .i64) (n := 1) (xs := [lr]) rfl rfl (by decide)
      have h9 := St.formShut1 (s := ((some (⟨wr.heap.size, 0, none⟩ : Addr), 1, 1) : Slc)) HSL.out (h8.sel [2, 1, 0] 1)
      simp only [List.length_append, List.length_singleton] at h9
      generalize w7.setCell _ _ = w8 at h9 ⊢
      go_roundg (roots.length - (j + 1))
      case measure => omega
      case rel => exact ⟨j + 1, by omega, rfl, by go_num, by rw [HT.out, HR.out]; exact h9⟩
    · obtain rfl : j = roots.length := by omega
      rw [List.take_length, HCE.out] at hsr
      obtain ⟨vf', hq⟩ := St.form hsr
      obtain ⟨A2, c2, rfl, _⟩ := (hq.pull 1).rd2.at
      have g0 := hq.cell 0
      have g1 := hq.cell 1
      have k0 := (hq.pull 2).cell 0
      have k1 := (hq.pull 2).cell 1
      have kf0 := (hq.pull 2).free 0
      have kf1 := (hq.pull 2).free 1
      have hs := (((hq.pull 2).set 0 (.int .i64 (n : Nat))).set 1 (.slice A2 CE.length c2)).sel [0, 2] 1
      go_wp2_with fail
      generalize World.setCell _ _ _ = wz at hs ⊢
      have b0 := hs.cell 0
      have b1 := hs.cell 1
      refine bodyPost_ret (v := .agg #[.int .i64 (n : Nat), .slice A2 CE.length c2]) (by simp [results, Try.results67, go_sem, b0, b1]) rfl ⟨_, rfl, ?_⟩
      exact hs.sel [1] 1
end Go.Proofs.Ytjeopmiopinlgaa
