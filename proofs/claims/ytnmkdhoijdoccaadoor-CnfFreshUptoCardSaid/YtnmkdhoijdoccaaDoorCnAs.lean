/- The program's Assign. -/
import Derived.Test.YtnmkdhoijdoccaaDoorCnB
import Derived.Test.YtnmkdhoijdoccaaDoorCnH
import Derived.Test.YtnmkdhoijdoccaaDoorCnCt
import Derived.Test.YtnmkdhoijdoccaaDoorCnRs
set_option linter.unusedVariables false
set_option linter.unusedSimpArgs false
namespace Go.Proofs.YtnmkdhoijdoccaaDoor
open Go Go.RowKit SL

theorem cutM_take_succ (l : Int) (cls : List (List Int)) (j : Nat) (h : j < cls.length) : cutM l (cls.take (j + 1)) = cutM l (cls.take j) ++ (if cls[j].contains l = true then [] else [cls[j].filter (· != -l)]) := by
  unfold cutM
  rw [List.take_succ_eq_append_getElem h, List.filter_append, List.map_append]
  congr 1
  cases hx : cls[j].contains l
  · rw [List.filter_cons_of_pos (by rw [hx]; rfl)]; rfl
  · rw [List.filter_cons_of_neg (by rw [hx]; decide)]; rfl
theorem cutM_len (l : Int) (cls : List (List Int)) : (cutM l cls).length ≤ cls.length := by
  unfold cutM; rw [List.length_map]; exact List.length_filter_le _ _
theorem cutM_take_len (l : Int) (cls : List (List Int)) (j : Nat) : (cutM l (cls.take j)).length ≤ j := by
  have := cutM_len l (cls.take j); rw [List.length_take] at this; omega
theorem St.frontG {w0 w : World} {A D G : HP} {I R : List HP} (h : SL.St w0 (A :: (I ++ D :: G :: R)) w) : SL.St w0 (G :: A :: (I ++ D :: R)) w := by
  refine SL.St.perm ?_ h
  have p : (I ++ D :: G :: R).Perm (G :: (I ++ D :: R)) := by
    have e : I ++ D :: G :: R = (I ++ [D]) ++ G :: R := by rw [List.append_assoc]; rfl
    have e2 : I ++ D :: R = (I ++ [D]) ++ R := by rw [List.append_assoc]; rfl
    rw [e, e2]
    exact List.perm_middle
  exact (p.cons A).trans (List.Perm.swap _ _ _)
theorem St.backG {w0 w : World} {A D G : HP} {I R : List HP} (h : SL.St w0 (G :: A :: (I ++ D :: R)) w) : SL.St w0 (A :: (I ++ D :: G :: R)) w := by
  refine SL.St.perm ?_ h
  have p : (G :: (I ++ D :: R)).Perm (I ++ D :: G :: R) := by
    have e : I ++ D :: G :: R = (I ++ [D]) ++ G :: R := by rw [List.append_assoc]; rfl
    have e2 : I ++ D :: R = (I ++ [D]) ++ R := by rw [List.append_assoc]; rfl
    rw [e, e2]
    exact List.perm_middle.symm
  exact (List.Perm.swap _ _ _).trans (p.cons A)

set_option maxRecDepth 100000 in
set_option maxHeartbeats 16000000 in
theorem assign_walk (w0 w : World) (l : List HP) (h : SL.St w0 l w) (vars : Int) (hv : I64 vars) (vf : Value) (cls : List (List Int)) (hr : Ent l (Rd2 (cInt .i64) vf cls)) (hI : ∀ c ∈ cls, ∀ x ∈ c, I64 x) (li : Int) (hli : I64 li) :
    Calls Tryd.prog 28 #[.agg #[.int .i64 vars, vf], .int .i64 li] w fun e w' => ∃ v', e = .returned (.tuple #[.agg #[.int .i64 (assignM vars cls li).1, v'], .int .i64 (assignM vars cls li).2.2]) ∧ SL.St w0 (Arr2 (cInt .i64) 3 51 v' (assignM vars cls li).2.1 :: l) w' := by
  obtain ⟨A, c, rfl, hm, -⟩ := (hr.use h).at
  unfold maxLen at hm
  have h1 := (h.alloc (.cells #[.int .i64 vars, .slice A cls.length c] 24)).alloc (.cells #[.int .i64 0, .slice none 0 0] 24)
  simp only [World.size_alloc] at h1
  have cw := check_walk w0 _ _ h1 vars hv (.slice A cls.length c) cls (Ent.tail (Ent.tail hr)) hI
  have hcv := checkM_vals vars cls
  have hcok := @checkM_ok vars cls
  have hU : assignM vars cls li = if (checkM vars cls).2 ≠ 0 then (0, [], (checkM vars cls).2) else if litOk li = false ∨ vars < varM li then (0, [], 20) else (vars, cutM li cls, 0) := rfl
  generalize assignM vars cls li = U at *
  generalize checkM vars cls = C at *
  obtain ⟨place, er⟩ := C
  simp only at cw hcv hU hcok
  have HU := Lib.hid hU; clear hU
  obtain ⟨hc1, hc2⟩ := hcv
  have HR := Lib.hid hr
  have a0 := (h1.pull 1).cell 0
  have a1 := (h1.pull 1).cell 1
  clear hr
  go_enter Tryd.func28, Tryd.ntmps28
  go_wp2_with fail
  refine cw.mono ?_
  rintro e w1 ⟨rfl, h2⟩
  generalize w.heap.size = B at *
  clear cw h h1 a0 a1
  have k0 : w1.cell? ⟨B + 1, 0, none⟩ = some (.int .i64 0) := h2.cell 0
  have k1 : w1.cell? ⟨B + 1, 1, none⟩ = some (.slice none 0 0) := h2.cell 1
  have kf0 : w1.frozen? ⟨B + 1, 0, none⟩ = false := h2.free 0
  have kf1 : w1.frozen? ⟨B + 1, 1, none⟩ = false := h2.free 1
  by_cases e0 : er = 0
  · subst e0
    obtain ⟨v1, v2, v3, hlits⟩ := hcok rfl
    have HU2 := Lib.hid (HU.out.trans (if_neg (by simp))); clear HU
    have g0 : w1.cell? ⟨B, 0, none⟩ = some (.int .i64 vars) := (h2.pull 1).cell 0
    have g1 : w1.cell? ⟨B, 1, none⟩ = some (.slice A cls.length c) := (h2.pull 1).cell 1
    have HLT := Lib.hid hlits
    have LW := fun n => lit_walk (w1.drewN n) li hli
    clear hcok hlits
    cases hlit : litOk li with
    | false =>
      have HU3 := Lib.hid (HU2.out.trans (if_pos (.inl hlit))); clear HU2
      rw [hlit] at LW
      clear hlit
      go_wp2_with fail
      go_quiet ((go_at_call 45; exact Calls.quiet_of_same (LW _)))
      have hz := (SL.St.drewN h2 nq)
      have hs := (hz.set 0 (.int .i64 0)).set 1 (.slice none 0 0)
      go_wp2_with fail
      generalize World.setCell _ _ _ = wz at hs ⊢
      have b0 := hs.cell 0
      have b1 := hs.cell 1
      refine bodyPost_ret (v := .tuple #[.agg #[.int .i64 0, .slice none 0 0], .int .i64 20]) (by simp [results, Tryd.results28, go_sem, b0, b1]) rfl ⟨_, by rw [HU3.out], ?_⟩
      rw [HU3.out]
      exact (hs.drop.drop).nil2 (cInt .i64) 3 51
    | true =>
      rw [hlit] at LW
      obtain ⟨hn0, hb1, hb2⟩ := litOk_iff.1 hlit
      have SW := fun n => size_walk (w1.drewN n) li (by omega) (by omega)
      obtain ⟨hvm1, hvm2⟩ : 0 ≤ varM li ∧ varM li ≤ 1048576 := by unfold varM; split <;> omega
      by_cases hbig : vars < varM li
      · have HU3 := Lib.hid (HU2.out.trans (if_pos (.inr hbig))); clear HU2
        have db : decide (vars < varM li) = true := decide_eq_true hbig
        generalize varM li = vl at *
        clear hlit hn0 hbig
        go_wp2_with fail
        go_quiet ((first | (go_at_call 45; exact Calls.quiet_of_same (LW _)) | (go_at_call 47; exact Calls.quiet_of_same (SW _))))
        have hz := (SL.St.drewN h2 nq)
        have hs := (hz.set 0 (.int .i64 0)).set 1 (.slice none 0 0)
        go_wp2_with fail
        generalize World.setCell _ _ _ = wz at hs ⊢
        have b0 := hs.cell 0
        have b1 := hs.cell 1
        refine bodyPost_ret (v := .tuple #[.agg #[.int .i64 0, .slice none 0 0], .int .i64 20]) (by simp [results, Tryd.results28, go_sem, b0, b1]) rfl ⟨_, by rw [HU3.out], ?_⟩
        rw [HU3.out]
        exact (hs.drop.drop).nil2 (cInt .i64) 3 51
      · have HU3 := Lib.hid (HU2.out.trans (if_neg (fun h => h.elim (fun h => by rw [hlit] at h; cases h) hbig))); clear HU2
        have db : decide (vars < varM li) = false := decide_eq_false hbig
        generalize varM li = vl at *
        clear hlit hn0 hbig
        go_wp2_with fail
        go_quiet ((first | (go_at_call 45; exact Calls.quiet_of_same (LW _)) | (go_at_call 47; exact Calls.quiet_of_same (SW _))))
        have hz := (SL.St.drewN h2 nq)
        clear h2 k0 k1 kf0 kf1 g0 g1 LW SW
        generalize World.drewN w1 nq = w2 at hz ⊢
        have g0 : w2.cell? ⟨B, 0, none⟩ = some (.int .i64 vars) := (hz.pull 1).cell 0
        have hG := hz.alloc (.cells #[.int .i64 vars, .slice none 0 0] 24)
        have g1 : (w2.alloc (.cells #[.int .i64 vars, .slice none 0 0] 24)).cell? ⟨B, 1, none⟩ = some (.slice A cls.length c) := (hG.pull 2).cell 1
        go_wp2_with fail
        generalize w2.heap.size = G at *
        generalize World.alloc w2 _ = w3 at hG ⊢
        clear g0 g1 hz
        have hG2 : SL.St w0 (Blk G (.cells #[.int .i64 vars, .slice none 0 0] 24 (0, 0)) :: Arr2 (cInt .i64) 3 51 (.slice none 0 0) (cutM li (cls.take 0)) :: Blk (B + 1) (.cells #[.int .i64 0, .slice none 0 0] 24 (0, 0)) :: Blk B (.cells #[.int .i64 vars, .slice A cls.length c] 24 (0, 0)) :: l) w3 := SL.St.swap (hG.nil2 (cInt .i64) 3 51)
        clear hG
        go_loopg [40] cls.length (fun k i wr => ∃ (j : Nat) (vG : Value), j ≤ cls.length ∧ k = cls.length - j ∧ i = .int .i64 j ∧ SL.St w0 (Blk G (.cells #[.int .i64 vars, vG] 24 (0, 0)) :: Arr2 (cInt .i64) 3 51 vG (cutM li (cls.take j)) :: Blk (B + 1) (.cells #[.int .i64 0, .slice none 0 0] 24 (0, 0)) :: Blk B (.cells #[.int .i64 vars, .slice A cls.length c] 24 (0, 0)) :: l) wr)
        case atStart => exact ⟨0, _, Nat.zero_le _, rfl, rfl, hG2⟩
        case round =>
          clear hG2
          obtain ⟨j, vG, hj, hgk, rfl, hsr⟩ := hrel
          subst hgk
          obtain ⟨Ag, cg, rfl, -, -⟩ := (hsr.pull 1).rd2.at
          by_cases hlt : j < cls.length
          · obtain ⟨A', c', hv', -, hcc⟩ := (HR.out.use hsr.drop.drop.drop.drop).at
            obtain rfl : A = A' := by injection hv'
            obtain ⟨ad, Bc, nc, cc, hA', hcell, hrc⟩ := hcc j _ (List.getElem?_eq_getElem hlt)
            subst hA'
            clear hcc hv'
            have HCT := Lib.hid (cutM_take_succ li cls j hlt)
            have hxl := (HLT.out _ (List.getElem_mem hlt)).1
            have hgl := cutM_take_len li cls j
            generalize cls[j] = x at *
            generalize cutM li (cls.take j) = GL at *
            have CW := contains_walk _ _ x hrc li
            cases hct : x.contains li with
            | true =>
              rw [hct] at CW
              have HCT2 := Lib.hid (show cutM li (cls.take (j + 1)) = GL by rw [HCT.out, if_pos hct, List.append_nil])
              clear hct
              go_wp2_with fail
              refine CW.mono ?_
              rintro e w' ⟨rfl, rfl⟩
              go_wp2_with fail
              go_roundg (cls.length - (j + 1))
              case measure => omega
              case rel => exact ⟨j + 1, _, by omega, rfl, by go_num, by rw [HCT2.out]; exact hsr⟩
            | false =>
              rw [hct] at CW
              have HCT2 := Lib.hid (show cutM li (cls.take (j + 1)) = GL ++ [x.filter (· != -li)] by rw [HCT.out, if_neg (by rw [hct]; decide)])
              clear hct
              go_wp2_with fail
              refine CW.mono ?_
              rintro e w' ⟨rfl, rfl⟩
              obtain ⟨Bc', c2, hv2, hxm, hcx⟩ := hrc
              obtain ⟨rfl, rfl, rfl⟩ : Bc = Bc' ∧ nc = x.length ∧ cc = c2 := by injection hv2 with h1 h2 h3; exact ⟨h1, h2, h3⟩
              clear hv2 CW
              go_wp2_with fail
              have hrx : Rd (cInt .i64) (.slice Bc x.length cc) x _ := ⟨Bc, cc, rfl, hxm, hcx⟩
              unfold maxLen at hxm
              clear hcx hcell
              have hst2 : SL.St w' (Arr (cInt .i64) 3 (.slice none 0 0) ((x.take 0).filter (· != -li)) :: [Old w']) w' := (SL.St.start w').rows_nil (cInt .i64) 3
              have HQ := Lib.hid hsr
              have HRX := Lib.hid hrx
              clear hsr hrx
              go_loopg [11, 49] x.length (fun k d i wi => ∃ t : Nat, t ≤ x.length ∧ k = x.length - t ∧ i = .int .i64 t ∧ SL.St w' (Arr (cInt .i64) 3 d ((x.take t).filter (· != -li)) :: [Old w']) wi)
              case atStart => exact ⟨0, Nat.zero_le _, rfl, rfl, hst2⟩
              case round =>
                clear hst2
                obtain ⟨t, ht, hgk, rfl, hsi⟩ := hrel
                subst hgk
                by_cases hlt2 : t < x.length
                · obtain ⟨B', c', hv', -, hcx⟩ := (old1 HRX.out).use hsi.drop
                  obtain rfl : Bc = B' := by injection hv'
                  obtain ⟨xd, rfl, hcy⟩ := rd_at_int hcx t hlt2
                  clear hcx hv'
                  have HF := Lib.hid (filter_take_succ x (· != -li) t hlt2)
                  have hfl : ((x.take t).filter (· != -li)).length ≤ t := Nat.le_trans (List.length_filter_le _ _) (by simp; omega)
                  generalize x[t] = y at *
                  have HFL := Lib.hid hfl; clear hfl
                  generalize (x.take t).filter (· != -li) = FL at *
                  by_cases hy : y = -li
                  · have d : (y != -li) = false := by simp [hy]
                    have HY := Lib.hid d
                    clear hy
                    go_wp2_with fail
                    go_roundg (x.length - (t + 1))
                    case measure => omega
                    case rel => exact ⟨t + 1, by omega, rfl, by go_num, by rw [HF.out, if_neg (by rw [HY.out]; decide), List.append_nil]; exact hsi⟩
                  · have d : (y != -li) = true := by simp [hy]
                    have HY := Lib.hid d
                    clear hy
                    have hA := hsi.alloc (.cells #[.int .i64 y] 3)
                    go_wp2_with (at_builtin; go_loud (refine wpList_app rfl _ _ rfl Tryd.underlying51 infoInt rfl (hA.pull 1) rfl (ys := ([y] : List Int)) rfl (hA.rd_blk (d := cInt .i64) (ys := ([y] : List Int)) 1 1 rfl rfl (by decide)) (by have := HFL.out; simp; omega) (by have := HFL.out; simp; omega) ?_); go_loud (intro vo w8 h8))
                    go_roundg (x.length - (t + 1))
                    case measure => omega
                    case rel => exact ⟨t + 1, by omega, rfl, by go_num, by rw [HF.out, if_pos HY.out]; exact h8.sel [0] 1⟩
                · obtain rfl : t = x.length := by omega
                  rw [List.take_length] at hsi
                  have hful := St.through (ps := [_]) HQ.out hsi
                  obtain ⟨Bd, cd, rfl, -, -⟩ := hful.rd
                  clear hsi HQ HRX
                  generalize x.filter (· != -li) = X at *
                  obtain ⟨ss, hsl, h5⟩ := SL.St.arr2 (hful.pull 2)
                  have h6 := (h5.alloc (.cells #[.slice (Bd) X.length cd] 51))
                  have HSL := Lib.hid hsl; have HGL := Lib.hid hgl
                  have g1 : World.cell? _ ⟨G, 1, none⟩ = some (.slice Ag GL.length cg) := (hful.pull 1).cell 1
                  clear hful h5 hsl hgl
                  have HSB := Lib.hid (show ss.length ≤ 1048576 by rw [HSL.out]; have := HGL.out; omega)
                  go_wp2_with (at_builtin; go_loud (refine wpList_app rfl _ _ rfl Tryd.underlying22 infoClause rfl (h6.pull 1) rfl (ys := ([(Bd, X.length, cd)] : List Slc)) rfl (h6.rd_blk (d := cSlc) (ys := ([(Bd, X.length, cd)] : List Slc)) 1 1 rfl rfl (by decide)) (by have := HSB.out; simp; omega) (by have := HSB.out; simp; omega) ?_); go_loud (intro vo' w7 h7); go_loud (obtain ⟨An', cn', rfl, _, _⟩ := h7.rd); go_loud (have h8 := St.frontG (h7.sel [0] 1)); go_loud (have g2 : w7.cell? ⟨G, 1, none⟩ = some (.slice Ag GL.length cg) := h8.cell 1); go_loud (have gf := h8.free 1))
                  have h9 := SL.St.swap (SL.St.push2 (s := ((Bd, X.length, cd) : Slc)) HSL.out (St.backG (h8.set 1 (.slice An' (ss ++ [((Bd, X.length, cd) : Slc)]).length cn'))))
                  simp only [List.length_append, List.length_singleton] at h9
                  generalize World.setCell w7 _ _ = w9 at h9 ⊢
                  go_roundg (cls.length - (j + 1))
                  case measure => omega
                  case rel => exact ⟨j + 1, _, by omega, rfl, by go_num, by rw [HCT2.out]; exact h9⟩
          · obtain rfl : j = cls.length := by omega
            rw [List.take_length] at hsr
            have g0 : World.cell? _ ⟨G, 0, none⟩ = some (.int .i64 vars) := hsr.cell 0
            have g1 : World.cell? _ ⟨G, 1, none⟩ = some (.slice Ag (cutM li cls).length cg) := hsr.cell 1
            have k0 : World.cell? _ ⟨B + 1, 0, none⟩ = some (.int .i64 0) := (hsr.pull 2).cell 0
            have k1 : World.cell? _ ⟨B + 1, 1, none⟩ = some (.slice none 0 0) := (hsr.pull 2).cell 1
            have kf0 : World.frozen? _ ⟨B + 1, 0, none⟩ = false := (hsr.pull 2).free 0
            have kf1 : World.frozen? _ ⟨B + 1, 1, none⟩ = false := (hsr.pull 2).free 1
            have hs := ((hsr.pull 2).set 0 (.int .i64 vars)).set 1 (.slice Ag (cutM li cls).length cg)
            generalize cutM li cls = GL at *
            go_wp2_with fail
            generalize World.setCell _ _ _ = wz at hs ⊢
            have b0 := hs.cell 0
            have b1 := hs.cell 1
            refine bodyPost_ret (v := .tuple #[.agg #[.int .i64 vars, .slice Ag GL.length cg], .int .i64 0]) (by simp [results, Tryd.results28, go_sem, b0, b1]) rfl ⟨_, by rw [HU3.out], ?_⟩
            rw [HU3.out]
            exact hs.sel [2] 3
  · have d0 : (er != 0) = true := by simp [e0]
    have HU2 := Lib.hid (HU.out.trans (if_pos e0)); clear HU e0 hcok
    have hs := (h2.set 0 (.int .i64 0)).set 1 (.slice none 0 0)
    go_wp2_with fail
    generalize World.setCell _ _ _ = wz at hs ⊢
    have b0 := hs.cell 0
    have b1 := hs.cell 1
    refine bodyPost_ret (v := .tuple #[.agg #[.int .i64 0, .slice none 0 0], .int .i64 er]) (by simp [results, Tryd.results28, go_sem, b0, b1]) rfl ⟨_, by rw [HU2.out], ?_⟩
    rw [HU2.out]
    exact (hs.drop.drop).nil2 (cInt .i64) 3 51
end Go.Proofs.YtnmkdhoijdoccaaDoor
