/- The law AigFresh. -/
import Derived.Test.YtjllogellpfpkaaAigF1
set_option linter.unusedVariables false
set_option linter.unusedSimpArgs false
namespace Go.Proofs.Ytjllogellpfpkaa
open Go Go.RowKit SL

theorem dec_self {α : Type} [DecidableEq α] (l : α) : decide (l = l) = true := by simp

set_option maxRecDepth 100000 in
set_option maxHeartbeats 400000000 in
theorem fresh_walk (w : World) (v : Value) (script : List Mk) (hr : Ent [Old w] (Rd cMade v script)) (hin : ∀ s ∈ script, MkIn s) (hl : script.length ≤ 2097152)
    (vw : Value) (inp : List Bool) (hri : Ent [Old w] (Rd cBool vw inp)) (hli : inp.length ≤ 2097152) :
    Calls Try.prog 5 #[v, vw] w fun e w' => e = .returned (.bool true) ∧ SL.St w [Old w] w' := by
  obtain ⟨gd, -⟩ := madeM_good script (by omega)
  have hcount := madeM_count script (by omega)
  have hok := madeM_ok script
  obtain ⟨A, c, hv, hm, -⟩ := hr.use (St.start w)
  subst hv
  go_enter Try.func5, Try.ntmps5
  go_wp2_with fail
  refine (New_walk w w _ (St.start w)).mono ?_
  rintro e w1 ⟨g, rfl, hs1⟩
  go_wp2_with fail
  refine (live_walk w w1 _ hs1).mono ?_
  rintro e w2 ⟨rfl, hs2⟩
  go_wp2_with fail
  refine (made2_walk w w2 _ g hs2 _ script hr hin (by omega)).mono ?_
  rintro e w3 ⟨vl, rfl, hs3⟩
  generalize madeM script = p at *
  obtain ⟨ns, ls⟩ := p
  simp only at gd hcount hs3
  obtain ⟨hp0, hps, hpl, hpx⟩ := hok
  simp only at hp0 hps hpl hpx
  obtain ⟨Al, cl, rfl, -, -⟩ := hs3.rd
  have hwf := gd.wf
  have hwi := gd.wfIn
  have hll : ls.length ≤ 1073741824 := by omega
  have HPL := Lib.hid hpl; clear hpl
  clear hs1 hs2
  have hs4 := (hs3.alloc (.cells #[] 44)).arr_lit (d := cNat .u32) (n := 0) (xs := []) rfl rfl (by decide)
  go_wp2_with (first | (at_builtin; go_loud (refine wpList_app rfl _ _ rfl Try.underlying27 infoU32 rfl hs4 rfl (ys := ls) rfl ((hs4.pull 1).rd) (by have := HPL.out; simp; omega) (by have := HPL.out; simp; omega) ?_); intro vr w4 hs5; obtain ⟨Ar, cr, rfl, -, -⟩ := hs5.rd))
  simp only [List.nil_append] at hs5
  clear hs4 hs3
  refine (fit_walk w w4 _ g ns (hs5.pull 2) (by omega) _ inp (Ent.tail (Ent.tail hri))).mono ?_
  rintro e w5 ⟨vrow, rfl, hs6⟩
  have hfl : (fitM (inputsOf ns).length inp).length = (inputsOf ns).length := by unfold fitM; simp; omega
  generalize fitM (inputsOf ns).length inp = row at *
  obtain ⟨Arow, crow, rfl, -, -⟩ := hs6.rd
  have hi := Inputs_walk w w5 _ g ns (hs6.pull 1)
  generalize hn : (inputsOf ns).length = n at hcount hi hfl
  have HN := Lib.hid hn; clear hn
  have HFL := Lib.hid hfl; clear hfl
  have hmk := run_make_row' (P := Try.prog) 23 33 (.int .u64 0) 8 Try.underlying23 infoU64 rfl .i64 .i64 n (by omega) (by omega)
  have hmk2 := run_make_row' (P := Try.prog) 27 44 (.int .u32 0) 4 Try.underlying27 infoU32 rfl .i64 .i64 n (by omega) (by omega)
  have hi2 := Inputs_walk w (w5.alloc (.cells (madeCells #[Value.int .u64 0] n) 33)) _ g ns ((hs6.alloc (.cells (madeCells #[Value.int .u64 0] n) 33)).pull 2)
  rw [HN.out] at hi2
  go_wp2_with fail
  refine hi.mono ?_
  rintro e w' ⟨rfl, rfl⟩
  go_wp2_with fail
  refine hi2.mono ?_
  rintro e w' ⟨rfl, rfl⟩
  go_wp2_with fail
  have hs7 := ((((hs6.alloc (.cells (madeCells #[Value.int .u64 0] n) 33)).arr_made (d := cNat .u64) rfl (x := 0) rfl (by unfold maxLen; omega)).alloc (.cells (madeCells #[Value.int .u32 0] n) 44)).arr_made (d := cNat .u32) rfl (x := 0) rfl (by unfold maxLen; omega))
  simp only [World.size_alloc] at hs7
  generalize w5.heap.size = kw at hs7 ⊢
  generalize ((w5.alloc _).alloc _) = w6 at hs7 ⊢
  clear hmk hmk2 hi hi2 hs6 hs5
  refine (Cone_walk w w6 _ g ns (hs7.pull 3) hwf (by omega) _ ls (fun _ _ h => (h.pull 3).rd) hpx).mono ?_
  rintro e w7 ⟨va, rfl, hs8⟩
  clear hs7
  go_wp2_with fail
  refine (Cone_walk w w7 _ g ns (hs8.pull 1) hwf (by omega) _ ls (fun _ _ h => (h.pull 4).rd) hpx).mono ?_
  rintro e w8 ⟨vb, rfl, hs9⟩
  clear hs8
  have hCL := coneM_lined hwf ls hpx
  have hcl := hCL.1.length_le
  have HM := Lib.hid (rfl : coneM ns ls = coneM ns ls)
  generalize hK : coneM ns ls = K at hs9 hcl
  have HK := Lib.hid hK; clear hK hCL HM
  go_wp2_with fail
  refine (Eval_walk w w8 _ g ns (hs9.pull 1) hwf hwi (by omega) _ row (fun _ _ h => (h.pull 4).rd) (HFL.out.trans HN.out.symm) _ ls (fun _ _ h => (h.pull 5).rd) hpx hll).mono ?_
  rintro e w9 ⟨vc, rfl, hs10⟩
  clear hs9
  go_wp2_with fail
  refine (Eval_walk w w9 _ g ns (hs10.pull 1) hwf hwi (by omega) _ row (fun _ _ h => (h.pull 5).rd) (HFL.out.trans HN.out.symm) _ ls (fun _ _ h => (h.pull 6).rd) hpx hll).mono ?_
  rintro e w10 ⟨vd, rfl, hs11⟩
  clear hs10
  have hel : (evalM ns row ls).length = ls.length := by simp [evalM, simM]
  generalize hE : evalM ns row ls = E at hs11 hel
  have HE := Lib.hid hE; clear hE
  go_wp2_with fail
  refine (Sim_walk w w10 _ g ns (hs11.pull 1) hwf hwi (by omega) _ (List.replicate n 0) (fun _ _ h => (h.pull 5).rd) (by rw [List.length_replicate]; exact HN.out.symm) (fun y hy => by rw [(List.mem_replicate.1 hy).2]; decide) _ ls (fun _ _ h => (h.pull 7).rd) hpx hll).mono ?_
  rintro e w11 ⟨vu, rfl, hs12⟩
  clear hs11
  go_wp2_with fail
  refine (Sim_walk w w11 _ g ns (hs12.pull 1) hwf hwi (by omega) _ (List.replicate n 0) (fun _ _ h => (h.pull 6).rd) (by rw [List.length_replicate]; exact HN.out.symm) (fun y hy => by rw [(List.mem_replicate.1 hy).2]; decide) _ ls (fun _ _ h => (h.pull 8).rd) hpx hll).mono ?_
  rintro e w12 ⟨vv, rfl, hs13⟩
  clear hs12
  have hul : (simM ns (List.replicate n 0) ls).length = ls.length := by simp [simM]
  generalize simM ns (List.replicate n 0) ls = U at hs13 hul
  have hz0 : ∀ y ∈ List.replicate n 0, y = 0 := fun y hy => (List.mem_replicate.1 hy).2
  have hlz := layM_zero (ns := ns) (hs := ns) (roots := ls) hz0
  go_wp2_with fail
  refine (Lay_walk w w12 _ _ g g ns ns (hs13.pull 1) (List.Perm.refl _) gd gd (by omega) _ (List.replicate n 0) (fun _ _ h => (h.pull 6).rd) (by rw [List.length_replicate]; exact HN.out.symm) (fun y hy => by rw [hz0 y hy]; omega) _ ls (fun _ _ h => (h.pull 9).rd) (fun _ _ h => (h.pull 9).rd) hpx hll).mono ?_
  rintro e w13 ⟨vx, rfl, hs14⟩
  clear hs13
  rw [hlz.1] at hs14
  go_wp2_with fail
  refine (Lay_walk w w13 _ _ g g ns ns (hs14.pull 1) (List.Perm.refl _) gd gd (by omega) _ (List.replicate n 0) (fun _ _ h => (h.pull 7).rd) (by rw [List.length_replicate]; exact HN.out.symm) (fun y hy => by rw [hz0 y hy]; omega) _ ls (fun _ _ h => (h.pull 10).rd) (fun _ _ h => (h.pull 10).rd) hpx hll).mono ?_
  rintro e w14 ⟨vy, rfl, hs15⟩
  clear hs14
  rw [hlz.1] at hs15
  have hyl := hlz.2
  generalize (layM ns ns (List.replicate n 0) ls).1 = X at hs15 hyl
  clear hlz hz0
  obtain ⟨Ay, cy, rfl, -, -⟩ := hs15.rd
  obtain ⟨Ax, cx, rfl, -, -⟩ := (hs15.pull 2).rd
  obtain ⟨Av, cv, rfl, -, -⟩ := (hs15.pull 3).rd
  obtain ⟨Au, cu, rfl, -, -⟩ := (hs15.pull 4).rd
  obtain ⟨Ad, cd, rfl, -, -⟩ := (hs15.pull 5).rd
  obtain ⟨Ac, cc, rfl, -, -⟩ := (hs15.pull 6).rd
  obtain ⟨Ab, cb, rfl, -, -⟩ := (hs15.pull 7).rd
  obtain ⟨Aa, ca, rfl, -, -⟩ := (hs15.pull 8).rd
  have nE : ((E.length : Int) != (ls.length : Int)) = false := by simp [hel]
  have nU : ((U.length : Int) != (ls.length : Int)) = false := by simp [hul]
  have nX : ((X.length : Int) != (ls.length : Int)) = false := by simp [hyl]
  have HEL := Lib.hid hel; clear hel
  have HUL := Lib.hid hul; clear hul
  have HXL := Lib.hid hyl; clear hyl
  have hsz := (hs15.alloc (.cells #[] 44)).arr_lit (d := cNat .u32) (n := 0) (xs := []) rfl rfl (by decide)
  have bE : E.length ≤ 1073741824 := by have := HEL.out; omega
  have bU : U.length ≤ 1073741824 := by have := HUL.out; omega
  have bX : X.length ≤ 1073741824 := by have := HXL.out; omega
  go_wp2_with (first
    | (at_builtin; (refine wpList_app rfl _ _ rfl Try.underlying27 infoU32 rfl hsz rfl (ys := X) rfl ((hsz.pull 1).rd) (by simp; omega) (by simp; omega) ?_); intro vz w15 hs16; obtain ⟨Az, cz, rfl, -, -⟩ := hs16.rd; have hsp := (hs16.alloc (.cells #[] 3)).arr_lit (d := cNat .i64) (n := 0) (xs := []) rfl rfl (by decide))
    | (at_builtin; (refine wpList_app rfl _ _ rfl Try.underlying50 infoInt rfl hsp rfl (ys := K) rfl ((hsp.pull 9).rd) (by simp; omega) (by simp; omega) ?_); intro vp w16 hs17; obtain ⟨Ap, cp, rfl, -, -⟩ := hs17.rd))
  simp only [List.nil_append] at hs17
  clear hsp hs16 hsz hs15 nE nU nX
  have hs18 := SL.St.imp (P' := Arr (cInt .i64) 3 (.slice Aa K.length ca) (K.map fun n : Nat => (n : Int))) (fun k p => by rw [← arr_int]; exact p) (hs17.sel [10, 0, 1, 2, 3, 4, 5, 6, 7, 8, 9])
  obtain ⟨R, hR, hs19⟩ : ∃ R, R = _ ∧ SL.St w (Arr (cInt .i64) 3 (.slice Aa K.length ca) (K.map fun n : Nat => (n : Int)) :: R) w16 := ⟨_, rfl, hs18⟩
  have HR := Lib.hid hR; clear hR hs17 hs18
  go_loopg [30] K.length (fun k i wr => ∃ (j : Nat) (al : List Int), j ≤ K.length ∧ k = K.length - j ∧ i = .int .i64 j ∧ al.length = K.length ∧ SL.St w (Arr (cInt .i64) 3 (.slice Aa K.length ca) al :: R) wr)
  case atStart => exact ⟨0, _, Nat.zero_le _, rfl, rfl, by simp, hs19⟩
  case round =>
    clear hs19
    obtain ⟨j, al, hj, hgk, rfl, hal, hsr⟩ := hrel
    subst hgk
    have HAL := Lib.hid hal; clear hal
    by_cases hlt : j < K.length
    · have hja : j < al.length := by rw [HAL.out]; exact hlt
      obtain ⟨ga, ca', hf⟩ := hsr.arr_form (by omega)
      injection hf with h1 h2 h3
      subst h1
      clear h2 h3
      obtain ⟨a0, af⟩ := hsr.arr_cell1 rfl j _ (List.getElem?_eq_getElem hja) _ rfl
      go_wp2_with fail
      go_roundg (K.length - (j + 1))
      case measure => omega
      case rel => exact ⟨j + 1, al.set j (-5), by omega, rfl, by go_num, by simpa using HAL.out, hsr.arr_set1 rfl j hja (-5) _ rfl⟩
    · go_wp2_with fail
      rw [HR.out] at hsr
      have hs20 := hsr.sel [9, 7, 5, 0, 1, 2, 3, 4, 6, 8, 10]
      obtain ⟨R2, hR2, hs21⟩ : ∃ R2, R2 = _ ∧ SL.St w (Arr cBool 4 (.slice Ac E.length cc) E :: Arr (cNat .u64) 33 (.slice Au U.length cu) U :: Arr (cNat .u32) 44 (.slice Ax X.length cx) X :: R2) wr := ⟨_, rfl, hs20⟩
      have HR2 := Lib.hid hR2; clear hR2 hs20 hsr HR
      have hEU : U.length = E.length := by rw [HUL.out, HEL.out]
      have hEX : X.length = E.length := by rw [HXL.out, HEL.out]
      have HEU := Lib.hid hEU; clear hEU
      have HEX := Lib.hid hEX; clear hEX
      go_loopg [31] E.length (fun k i wr => ∃ (j : Nat) (us xs : List Nat), j ≤ E.length ∧ k = E.length - j ∧ i = .int .i64 j ∧ us.length = U.length ∧ xs.length = X.length ∧ (∀ m, m < j → us[m]? = some 85) ∧
          SL.St w (Arr cBool 4 (.slice Ac E.length cc) ((E.take j).map not ++ E.drop j) :: Arr (cNat .u64) 33 (.slice Au U.length cu) us :: Arr (cNat .u32) 44 (.slice Ax X.length cx) xs :: R2) wr)
      case atStart => exact ⟨0, U, X, Nat.zero_le _, rfl, rfl, rfl, rfl, fun m hm => absurd hm (Nat.not_lt_zero _), hs21⟩
      case round =>
        clear hs21
        obtain ⟨j2, us, xs, hj2, hgk, rfl, hul, hxl, hu85, hsr⟩ := hrel
        subst hgk
        have HUS := Lib.hid hul; clear hul
        have HXS := Lib.hid hxl; clear hxl
        have HU85 := Lib.hid hu85; clear hu85
        by_cases hlt2 : j2 < E.length
        · have hju : j2 < us.length := by rw [HUS.out, HEU.out]; exact hlt2
          have hjx : j2 < xs.length := by rw [HXS.out, HEX.out]; exact hlt2
          have hz0 : ((E.take j2).map not ++ E.drop j2)[j2]? = some E[j2] := by
            rw [List.getElem?_append_right (by simp; omega), show j2 - ((E.take j2).map not).length = 0 by simp; omega, List.getElem?_drop]
            simp [hlt2]
          have hcl : ((E.take j2).map not ++ E.drop j2).length = E.length := by simp; omega
          have HT := Lib.hid (show (E.take (j2 + 1)).map not ++ E.drop (j2 + 1) = ((E.take j2).map not ++ E.drop j2).set j2 (!E[j2]) by
            rw [List.set_append_right _ _ (by simp; omega), show j2 - ((E.take j2).map not).length = 0 by simp; omega, List.take_succ_eq_append_getElem hlt2, List.drop_eq_getElem_cons hlt2, List.map_append, List.append_assoc]
            rfl)
          generalize (E.take j2).map not ++ E.drop j2 = cs at *
          have HCL := Lib.hid hcl; clear hcl
          have hjc : j2 < cs.length := by rw [HCL.out]; exact hlt2
          obtain ⟨gc, cc', hf⟩ := hsr.arr_form (by omega)
          injection hf with h1 h2 h3
          subst h1
          clear h2 h3
          obtain ⟨gu, cu', hf⟩ := (hsr.pull 1).arr_form (by omega)
          injection hf with h1 h2 h3
          subst h1
          clear h2 h3
          obtain ⟨gx, cx', hf⟩ := (hsr.pull 2).arr_form (by omega)
          injection hf with h1 h2 h3
          subst h1
          clear h2 h3
          obtain ⟨a0, af⟩ := hsr.arr_cell1 rfl j2 _ hz0 _ rfl
          have hs22 := (hsr.arr_set1 rfl j2 hjc (!E[j2]) _ rfl).pull 1
          obtain ⟨b0, bf⟩ := hs22.arr_cell1 rfl j2 _ (List.getElem?_eq_getElem hju) _ rfl
          have hs23 := (hs22.arr_set1 rfl j2 hju 85 (.int .u64 85) rfl).pull 2
          obtain ⟨d0, df⟩ := hs23.arr_cell1 rfl j2 _ (List.getElem?_eq_getElem hjx) _ rfl
          obtain ⟨-, bf0⟩ := (hsr.pull 1).arr_cell1 rfl j2 _ (List.getElem?_eq_getElem hju) _ rfl
          obtain ⟨-, df0⟩ := (hsr.pull 2).arr_cell1 rfl j2 _ (List.getElem?_eq_getElem hjx) _ rfl
          have hs24 := hs23.arr_set1 rfl j2 hjx 16777215 (.int .u32 16777215) rfl
          generalize E[j2] = eb at *
          have HB := Lib.hid bU
          have HB2 := Lib.hid bX
          have hju2 : j2 < U.length := by rw [HEU.out]; exact hlt2
          have hjx2 : j2 < X.length := by rw [HEX.out]; exact hlt2
          go_wp2_with fail
          go_roundg (E.length - (j2 + 1))
          case measure => omega
          case rel =>
            refine ⟨j2 + 1, us.set j2 85, xs.set j2 16777215, by omega, rfl, by go_num, by simpa using HUS.out, by simpa using HXS.out, fun m hm => ?_, ?_⟩
            · rw [List.getElem?_set]
              by_cases hmj : j2 = m
              · rw [if_pos hmj, if_pos (by omega)]
              · rw [if_neg hmj]; exact HU85.out m (by omega)
            · rw [HT.out]; exact hs24.sel [2, 1, 0]
        · obtain rfl : j2 = E.length := by omega
          rw [List.take_length, List.drop_length, List.append_nil] at hsr
          rw [HR2.out] at hsr
          have hs25 := (hsr.pull 3).alloc (.cells #[.int .i64 (-6)] 3)
          have hcx : xs.length = X.length := HXS.out
          go_wp2_with (first
            | (at_builtin; (refine wpList_app rfl _ _ rfl Try.underlying50 infoInt rfl (hs25.pull 1) rfl (ys := [(-6 : Int)]) rfl (hs25.rd_blk (ys := [(-6 : Int)]) 1 1 rfl rfl (by decide)) (by have := HAL.out; simp; omega) (by have := HAL.out; simp; omega) ?_); intro va2 w17 hs26; have hs27 := (hs26.pull 4).alloc (.cells #[.int .u32 7] 44))
            | (at_builtin; (refine wpList_app rfl _ _ rfl Try.underlying27 infoU32 rfl (hs27.pull 1) rfl (ys := [7]) rfl (hs27.rd_blk (ys := [7]) 1 1 rfl rfl (by decide)) (by have := HXS.out; simp; omega) (by have := HXS.out; simp; omega) ?_); intro vx2 w18 hs28))
          clear hs27 hs26 hs25
          have hs29 := hs28.sel [2, 0, 4, 5, 9, 10, 11, 12, 6, 7, 8, 15, 16, 17] 4
          obtain ⟨L, hL, hs30⟩ : ∃ L, L = _ ∧ SL.St w L w18 := ⟨_, rfl, hs29⟩
          have HL := Lib.hid hL; clear hL hs29 hs28 hsr HR2
          go_loopg [32] E.length (fun k i wr => ∃ (j : Nat), j ≤ E.length ∧ k = E.length - j ∧ i = .int .i64 j ∧ SL.St w L wr)
          case atStart => exact ⟨0, Nat.zero_le _, rfl, rfl, hs30⟩
          case round =>
            clear hs30
            obtain ⟨j3, hj3, hgk, rfl, hsr⟩ := hrel
            subst hgk
            by_cases hlt3 : j3 < E.length
            · have hsx := hsr
              rw [HL.out] at hsx
              obtain ⟨A1, c1, hv1, -, hc1⟩ := (hsx.pull 2).rd
              obtain ⟨ad1, hA1, hcell1⟩ := rd_at_bool hc1 j3 (by simpa using hlt3)
              obtain rfl : Ac = some ad1 := by
                have : A1 = Ac := by injection hv1 with h1; exact h1.symm
                rw [← this]; exact hA1
              obtain ⟨A2, c2, hv2, -, hc2⟩ := (hsx.pull 3).rd
              obtain ⟨ad2, hA2, hcell2⟩ := rd_at hc2 j3 (by have := HUS.out; have := HEU.out; omega)
              obtain rfl : Au = some ad2 := by
                have : A2 = Au := by injection hv2 with h1; exact h1.symm
                rw [← this]; exact hA2
              obtain ⟨A3, c3, hv3, -, hc3⟩ := (hsx.pull 5).rd
              obtain ⟨ad3, hA3, hcell3⟩ := rd_at hc3 j3 (by have := HEU.out; omega)
              obtain rfl : Av = some ad3 := by
                have : A3 = Av := by injection hv3 with h1; exact h1.symm
                rw [← this]; exact hA3
              obtain ⟨A4, c4, hv4, -, hc4⟩ := (hsx.pull 6).rd
              obtain ⟨ad4, hA4, hcell4⟩ := rd_at_bool hc4 j3 hlt3
              obtain rfl : Ad = some ad4 := by
                have : A4 = Ad := by injection hv4 with h1; exact h1.symm
                rw [← this]; exact hA4
              have h85 : us[j3]'(by have := HUS.out; have := HEU.out; omega) = 85 := by
                have := HU85.out j3 hlt3
                rw [List.getElem?_eq_getElem (by have := HUS.out; have := HEU.out; omega)] at this
                injection this
              rw [h85] at hcell2
              rw [show (E.map not)[j3]'(by simpa using hlt3) = !(E[j3]) by simp] at hcell1
              clear hc1 hv1 hA1 hc2 hv2 hA2 hc3 hv3 hA3 hc4 hv4 hA4 h85
              have hcell2 : wr.cell? (ad2.add j3) = some (.int .u64 85) := hcell2
              generalize E[j3] = eb at hcell1 hcell4
              generalize U[j3]'(by have := HEU.out; omega) = vb at hcell3
              have hcmp : (!eb == eb) = false := by cases eb <;> rfl
              have hju2 : j3 < U.length := by rw [HEU.out]; exact hlt3
              clear hsx
              by_cases hV : vb = 85
              · have eV : ((vb : Int) == 85) = true := by simp [hV]
                have HV := Lib.hid hV; clear hV
                go_wp2_with fail
                go_quiet (fail)
                go_wp2_with fail
                go_roundg (E.length - (j3 + 1))
                case measure => omega
                case rel => exact ⟨j3 + 1, by omega, rfl, by go_num, hsr.drewN _⟩
              · have eV : ((vb : Int) == 85) = false := by rw [beq_eq_false_iff_ne]; omega
                have HV := Lib.hid hV; clear hV
                go_wp2_with fail
                go_quiet (fail)
                go_wp2_with fail
                go_roundg (E.length - (j3 + 1))
                case measure => omega
                case rel => exact ⟨j3 + 1, by omega, rfl, by go_num, hsr.drewN _⟩
            · rw [HL.out] at hsr
              have ha6 : (al ++ [-6])[K.length]? = some (-6) := by rw [← HAL.out]; simp
              have hx7 : (xs ++ [7])[X.length]? = some 7 := by rw [← HXS.out]; simp
              have hal2 : (al ++ [-6]).length = K.length + 1 := by simp [HAL.out]
              have hxl2 : (xs ++ [7]).length = X.length + 1 := by simp [HXS.out]
              generalize al ++ [-6] = al2 at hsr ha6 hal2
              generalize xs ++ [7] = xs2 at hsr hx7 hxl2
              have HA2 := Lib.hid hal2; clear hal2
              have HX2 := Lib.hid hxl2; clear hxl2
              obtain ⟨Aa2, ca2, hva2, -, -⟩ := hsr.rd
              subst hva2
              obtain ⟨Ax2, cx2, hvx2, -, -⟩ := (hsr.pull 1).rd
              subst hvx2
              go_wp2_with fail
              refine (Cone_walk w wr _ g ns (hsr.pull 4) hwf (by omega) _ ls (fun _ _ h => (h.pull 11).rd) hpx).mono ?_
              rintro e w19 ⟨ve, rfl, hs31⟩
              rw [HK.out] at hs31
              go_wp2_with fail
              refine (Eval_walk w w19 _ g ns (hs31.pull 1) hwf hwi (by omega) _ row (fun _ _ h => (h.pull 11).rd) (HFL.out.trans HN.out.symm) _ ls (fun _ _ h => (h.pull 12).rd) hpx hll).mono ?_
              rintro e w20 ⟨vw2, rfl, hs32⟩
              rw [HE.out] at hs32
              have hi := Inputs_walk w
              clear hi hsr hs31
              go_wp2_with (first | (go_at_call 12; refine (no_walk _ 0 (by decide) (by decide)).mono ?_; rintro e w' ⟨rfl, rfl⟩))
              refine (sameInts_walk w _ _ hs32 _ _ K K (fun _ _ h => (h.pull 9).rd) (fun _ _ h => (h.pull 10).rd)).mono ?_
              rw [dec_self]
              rintro e w21 ⟨rfl, hs33⟩
              clear hs32
              go_wp2_with fail
              refine (sameInts_walk w _ _ hs33 _ _ K K (fun _ _ h => (h.pull 2).rd) (fun _ _ h => (h.pull 10).rd)).mono ?_
              rw [dec_self]
              rintro e w22 ⟨rfl, hs34⟩
              clear hs33
              go_wp2_with fail
              refine (sameLits_walk w _ _ hs34 _ _ X X (fun _ _ h => (h.pull 12).rd) (fun _ _ h => (h.pull 11).rd)).mono ?_
              rw [dec_self]
              rintro e w23 ⟨rfl, hs35⟩
              clear hs34
              go_wp2_with fail
              refine (sameLits_walk w _ _ hs35 _ _ ls ls (fun _ _ h => (h.pull 14).rd) (fun _ _ h => (h.pull 15).rd)).mono ?_
              rw [dec_self]
              rintro e w24 ⟨rfl, hs36⟩
              clear hs35
              go_wp2_with fail
              refine (sameBools_walk w _ _ hs36 _ _ E E (fun _ _ h => h.rd) (fun _ _ h => (h.pull 8).rd)).mono ?_
              rw [dec_self]
              rintro e w25 ⟨rfl, hs37⟩
              clear hs36
              have hi := Inputs_walk w w25 _ g ns (hs37.pull 1)
              rw [HN.out] at hi
              obtain ⟨A5, c5, hv5, -, hc5⟩ := (hs37.pull 3).rd
              obtain ⟨ad5, hA5, hcell5⟩ := hc5 _ _ ha6
              have q5 := hcell5 0 _ rfl
              obtain rfl : Aa2 = some ad5 := by
                have : A5 = Aa2 := by injection hv5 with h1; exact h1.symm
                rw [← this]; exact hA5
              obtain ⟨A6, c6, hv6, -, hc6⟩ := (hs37.pull 4).rd
              obtain ⟨ad6, hA6, hcell6⟩ := hc6 _ _ hx7
              have q6 := hcell6 0 _ rfl
              obtain rfl : Ax2 = some ad6 := by
                have : A6 = Ax2 := by injection hv6 with h1; exact h1.symm
                rw [← this]; exact hA6
              have q5 : w25.cell? (ad5.add K.length) = some (.int .i64 (-6)) := by simpa [cInt] using q5
              have q6 : w25.cell? (ad6.add X.length) = some (.int .u32 7) := by simpa [cNat] using q6
              clear hv5 hc5 hA5 hcell5 hv6 hc6 hA6 hcell6 ha6 hx7
              have s5 : (al2.length : Int) - 1 = ((K.length : Nat) : Int) := by have := HA2.out; omega
              have s6 : (xs2.length : Int) - 1 = ((X.length : Nat) : Int) := by have := HX2.out; omega
              have l5 : K.length < al2.length := by have := HA2.out; omega
              have l6 : X.length < xs2.length := by have := HX2.out; omega
              have u5 : al2.length ≤ 2000000000 := by have := HA2.out; omega
              have u6 : xs2.length ≤ 2000000000 := by have := HX2.out; omega
              have nrow : ((row.length : Int) == (n : Int)) = true := by simp [HFL.out]
              go_wp2_with fail
              refine hi.mono ?_
              clear hi
              rintro e w' ⟨rfl, rfl⟩
              go_wp2_with fail
              go_ret
              exact ⟨rfl, hs37.sel [] 16⟩
end Go.Proofs.Ytjllogellpfpkaa
