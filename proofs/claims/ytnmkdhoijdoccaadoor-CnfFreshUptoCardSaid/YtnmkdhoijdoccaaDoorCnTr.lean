/- The reference's tidy. -/
import Derived.Test.YtnmkdhoijdoccaaDoorCnSet
import Derived.Test.YtnmkdhoijdoccaaDoorCnSm
import Derived.Test.YtnmkdhoijdoccaaDoorCnTs
set_option linter.unusedVariables false
set_option linter.unusedSimpArgs false
namespace Go.Proofs.YtnmkdhoijdoccaaDoor
open Go Go.RowKit SL

theorem any_or_step (D : Bool) (S x : List Int) (L : List (List Int)) (hD : D = decide (twoM S = true ∨ S ∈ L)) : (D || decide (x = S)) = decide (twoM S = true ∨ S ∈ L ++ [x]) := by
  subst hD
  by_cases h1 : twoM S = true
  · simp [h1]
  · by_cases h2 : S ∈ L
    · simp [h1, h2]
    · by_cases h3 : x = S
      · simp [h1, h2, h3]
      · have h4 : ¬ S = x := fun e => h3 e.symm
        simp [h1, h2, h3, h4]

set_option maxRecDepth 100000 in
set_option maxHeartbeats 8000000 in
theorem rtid_walk (w0 w : World) (l : List HP) (h : SL.St w0 l w) (vf : Value) (cls : List (List Int)) (hr : Ent l (Rd2 (cInt .i64) vf cls)) (hL : ∀ c ∈ cls, c.length ≤ 1048576 ∧ ∀ x ∈ c, litOk x = true) (hn : cls.length ≤ 4194304) :
    Calls Tryd.prog 34 #[vf] w fun e w' => ∃ v', e = .returned v' ∧ SL.St w0 (Arr2 (cInt .i64) 3 51 v' (tidM cls) :: l) w' := by
  obtain ⟨A, c, rfl, hm, -⟩ := (hr.use h).at
  unfold maxLen at hm
  have hs0 := h.nil2 (cInt .i64) 3 51
  have HL := Lib.hid hL; clear hL
  clear h
  go_enter Tryd.func34, Tryd.ntmps34
  go_wp2_with fail
  go_loopg [3, 4] cls.length (fun k vo i wr => ∃ j : Nat, j ≤ cls.length ∧ k = cls.length - j ∧ i = .int .i64 j ∧ SL.St w0 (Arr2 (cInt .i64) 3 51 vo (tidM (cls.take j)) :: l) wr)
  case atStart => exact ⟨0, Nat.zero_le _, rfl, rfl, hs0⟩
  case round =>
    clear hs0
    obtain ⟨j, hj, hgk, rfl, hsr⟩ := hrel
    subst hgk
    by_cases hlt : j < cls.length
    · obtain ⟨A', c', hv', -, hcc⟩ := (hr.use hsr.drop).at
      obtain rfl : A = A' := by injection hv'
      obtain ⟨ad, Bc, nc, cc, hA', hcell, hrc⟩ := hcc j _ (List.getElem?_eq_getElem hlt)
      subst hA'
      clear hcc hv'
      have HT := Lib.hid (tidM_take_succ cls j hlt)
      obtain ⟨hx1, hx2⟩ := HL.out _ (List.getElem_mem hlt)
      have hol := tidM_len (cls.take j)
      rw [List.length_take_of_le hj] at hol
      generalize cls[j] = x at *
      generalize tidM (cls.take j) = OUT at *
      obtain ⟨Ag, cg, rfl, -, -⟩ := hsr.rd2.at
      have SW := set_walk wr wr [Old wr] (SL.St.start wr) (.slice Bc nc cc) x (old1 hrc) hx2 (by omega)
      have hlits := fun (y : Int) (hy : y ∈ setM x) => (litOk_iff.1 (hx2 y (setM_mem.1 hy))).2
      unfold tidyStep at HT
      generalize setM x = S at *
      have HX := Lib.hid hx2; clear hx2 hrc
      go_wp2_with fail
      refine SW.mono ?_
      rintro e w1 ⟨vS, rfl, hst1⟩
      have hs1 := St.through (ps := [_]) hsr hst1
      clear SW hst1 hsr hcell
      obtain ⟨AS, cS, rfl, -, -⟩ := hs1.rd
      have hs1 : SL.St w0 (Arr (cInt .i64) 3 (.slice AS S.length cS) S :: Arr2 (cInt .i64) 3 51 (.slice Ag OUT.length cg) OUT :: l) w1 := hs1
      have TW := twofold_walk w1 _ S hs1.rd hlits
      generalize hD0 : twoM S = D0 at TW HT
      go_wp2_with fail
      refine TW.mono ?_
      rintro e w' ⟨rfl, rfl⟩
      clear TW hlits
      go_wp2_with fail
      go_loopg [6, 7] OUT.length (fun k b i wr => ∃ (t : Nat) (D : Bool), t ≤ OUT.length ∧ k = OUT.length - t ∧ i = .int .i64 t ∧ b = .bool D ∧ D = decide (twoM S = true ∨ S ∈ OUT.take t) ∧ SL.St w0 (Arr (cInt .i64) 3 (.slice AS S.length cS) S :: Arr2 (cInt .i64) 3 51 (.slice Ag OUT.length cg) OUT :: l) wr)
      case atStart => exact ⟨0, D0, Nat.zero_le _, rfl, rfl, rfl, by rw [← hD0]; simp, hs1⟩
      case round =>
        clear hs1
        obtain ⟨t, D, ht, hgk, rfl, rfl, hD, hsi⟩ := hrel
        subst hgk
        have HD := Lib.hid hD; clear hD
        by_cases hlt2 : t < OUT.length
        · obtain ⟨A2, c2, hv2, -, hcc⟩ := (hsi.pull 1).rd2.at
          obtain rfl : Ag = A2 := by injection hv2
          obtain ⟨ad2, B2, n2, cc2, hA2, hcell2, hrc2⟩ := hcc t _ (List.getElem?_eq_getElem hlt2)
          subst hA2
          have HS := Lib.hid (any_or_step D S OUT[t] (OUT.take t) HD.out)
          have HTK := Lib.hid (show OUT.take (t + 1) = OUT.take t ++ [OUT[t]] by rw [List.take_succ_eq_append_getElem hlt2])
          have sq := same_q wr (.slice B2 n2 cc2) (.slice AS S.length cS) OUT[t] S hrc2 hsi.rd
          clear hcc hv2 hrc2
          generalize OUT[t] = y at *
          generalize decide (y = S) = Q at *
          cases D with
          | true =>
            clear sq
            go_wp2_with fail
            go_roundg (OUT.length - (t + 1))
            case measure => omega
            case rel => exact ⟨t + 1, true, by omega, rfl, by go_num, rfl, by rw [HTK.out, ← HS.out]; rfl, hsi⟩
          | false =>
            go_wp2_with fail
            refine sq.mono ?_
            rintro e w' ⟨rfl, q, rfl⟩
            have hsj := SL.St.drewN hsi q
            clear sq hcell2
            go_wp2_with fail
            go_roundg (OUT.length - (t + 1))
            case measure => omega
            case rel => exact ⟨t + 1, Q, by omega, rfl, by go_num, by simp, by rw [HTK.out, ← HS.out]; rfl, hsj⟩
        · obtain rfl : t = OUT.length := by omega
          rw [List.take_length] at HD
          cases hDD : D with
          | true =>
            subst hDD
            have HT2 := Lib.hid (show tidM (cls.take (j + 1)) = OUT by rw [HT.out, if_pos]; rw [← hD0]; exact of_decide_eq_true HD.out.symm)
            clear HT hD0
            go_wp2_with fail
            go_roundg (cls.length - (j + 1))
            case measure => omega
            case rel => exact ⟨j + 1, by omega, rfl, by go_num, by rw [HT2.out]; exact hsi.drop⟩
          | false =>
            subst hDD
            have HT2 := Lib.hid (show tidM (cls.take (j + 1)) = OUT ++ [S] by rw [HT.out, if_neg]; rw [← hD0]; exact of_decide_eq_false HD.out.symm)
            clear HT hD0
            obtain ⟨ss, hsl, h5⟩ := SL.St.arr2 (SL.St.pull hsi 1)
            have h6 := (h5.alloc (.cells #[.slice AS S.length cS] 51))
            have HSL := Lib.hid hsl
            have HSB := Lib.hid (show ss.length ≤ 4194304 by rw [hsl]; omega)
            clear h5 hsl
            go_wp2_with (at_builtin; go_loud (refine wpList_app rfl _ _ rfl Tryd.underlying22 infoClause rfl (h6.pull 1) rfl (ys := ([(AS, S.length, cS)] : List Slc)) rfl (h6.rd_blk (d := cSlc) (ys := ([(AS, S.length, cS)] : List Slc)) 1 1 rfl rfl (by decide)) (by have := HSB.out; simp; omega) (by have := HSB.out; simp; omega) ?_); go_loud (intro vo' w7 h7))
            have h9 := SL.St.push2 (s := ((AS, S.length, cS) : Slc)) HSL.out (h7.sel [0] 1)
            go_roundg (cls.length - (j + 1))
            case measure => omega
            case rel => exact ⟨j + 1, by omega, rfl, by go_num, by rw [HT2.out]; exact h9⟩
    · obtain rfl : j = cls.length := by omega
      rw [List.take_length] at hsr
      go_wp2_with fail
      go_ret
      exact ⟨_, rfl, hsr⟩
end Go.Proofs.YtnmkdhoijdoccaaDoor
