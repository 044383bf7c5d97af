/- The reference's Set, Twofold, Norm. -/
import Derived.Test.YtnmkdhoijdoccaaDoorCnH
import Derived.Test.YtnmkdhoijdoccaaDoorCnK
set_option linter.unusedVariables false
set_option linter.unusedSimpArgs false
namespace Go.Proofs.YtnmkdhoijdoccaaDoor
open Go Go.RowKit SL

set_option maxRecDepth 100000 in
set_option maxHeartbeats 8000000 in
theorem set_walk (w0 w : World) (l : List HP) (h : SL.St w0 l w) (v : Value) (c : List Int) (hr : Ent l (Rd (cInt .i64) v c)) (hl : ∀ x ∈ c, litOk x = true) (hn : c.length ≤ 1048576) :
    Calls Tryd.prog 56 #[v] w fun e w' => ∃ v', e = .returned v' ∧ SL.St w0 (Arr (cInt .i64) 3 v' (setM c) :: l) w' := by
  obtain ⟨A, cc, rfl, hm, -⟩ := hr.use h
  unfold maxLen at hm
  have h1 : SL.St w0 (Arr (cInt .i64) 3 (.slice none 0 0) (setM (c.take 0)) :: l) w := h.rows_nil (cInt .i64) 3
  have HR := Lib.hid hr
  clear h hr
  go_enter Tryd.func56, Tryd.ntmps56
  go_wp2_with fail
  go_loopg [3, 4] c.length (fun k vl i wr => ∃ j : Nat, j ≤ c.length ∧ k = c.length - j ∧ i = .int .i64 j ∧ SL.St w0 (Arr (cInt .i64) 3 vl (setM (c.take j)) :: l) wr)
  case atStart => exact ⟨0, Nat.zero_le _, rfl, rfl, h1⟩
  case round =>
    clear h1
    obtain ⟨j, hj, hgk, rfl, hsr⟩ := hrel
    subst hgk
    by_cases hlt : j < c.length
    · obtain ⟨A', c', hv, -, hc⟩ := HR.out.use hsr.drop
      obtain rfl : A = A' := by injection hv
      obtain ⟨ad, rfl, hcell⟩ := rd_at_int hc j hlt
      clear hv hc
      have HT := Lib.hid (setM_take_succ c j hlt)
      have HSR := Lib.hid (setM_srt (c.take j))
      have hL := setM_len (c.take j)
      rw [List.length_take, Nat.min_eq_left hj] at hL
      have hxb := litOk_iff.1 (hl _ (List.getElem_mem hlt))
      have HLB := Lib.hid (show ∀ y ∈ setM (c.take j), -1048576 ≤ y ∧ y ≤ 1048576 from fun y hy => (litOk_iff.1 (hl y (List.mem_of_mem_take (setM_mem.1 hy)))).2)
      generalize c[j] = x at *
      generalize setM (c.take j) = L at *
      obtain ⟨-, hx1, hx2⟩ := hxb
      obtain ⟨B, cb, rfl, -, -⟩ := hsr.rd
      have HW := has_walk wr _ L hsr.rd x
      cases hk : L.contains x with
      | true =>
        rw [hk] at HW
        have HH := Lib.hid (insM_has HSR.out (List.contains_iff_mem.1 hk))
        clear hk
        go_wp2_with (go_at_call 24; refine HW.mono ?_; rintro e w' ⟨rfl, rfl⟩)
        go_roundg (c.length - (j + 1))
        case measure => omega
        case rel => exact ⟨j + 1, by omega, rfl, by go_num, by rw [HT.out, HH.out]; exact hsr⟩
      | false =>
        rw [hk] at HW
        have HH := Lib.hid (show x ∉ L from fun h => by rw [List.contains_iff_mem.2 h] at hk; cases hk)
        clear hk
        have hA := hsr.alloc (.cells #[.int .i64 x] 3)
        go_wp2_with (first | (go_at_call 24; refine HW.mono ?_; rintro e w' ⟨rfl, rfl⟩) | (at_builtin; go_loud (refine wpList_app rfl _ _ rfl Tryd.underlying51 infoInt rfl (hA.pull 1) rfl (ys := ([x] : List Int)) rfl (hA.rd_blk (d := cInt .i64) (ys := ([x] : List Int)) 1 1 rfl rfl (by decide)) (by simp; omega) (by simp; omega) ?_); go_loud (intro vo w2 h2); go_loud (obtain ⟨g, cg, rfl⟩ := h2.arr_form (by simp)); go_loud (have h3 : SL.St w0 (Arr (cInt .i64) 3 (.slice (some ⟨g, 0, none⟩) (L ++ [x]).length cg) (L ++ [x]) :: l) w2 := h2.sel [0] 1); go_loud (simp only [List.length_append, List.length_singleton] at h3)))
        clear HW hcell hA hsr h2
        have HLL := Lib.hid hL
        go_loopg [5] L.length (fun k' i wi => ∃ (P S : List Int) (kn : Nat), L = P ++ S ∧ kn = P.length ∧ kn = k' ∧ i = .int .i64 kn ∧ (∀ b ∈ S, aheadM x b = true) ∧ SL.St w0 (Arr (cInt .i64) 3 (.slice (some ⟨g, 0, none⟩) (L.length + 1) cg) (P ++ x :: S) :: l) wi)
        case atStart => exact ⟨L, [], L.length, by simp, rfl, rfl, rfl, fun b hb => (by cases hb), h3⟩
        case round =>
          clear h3
          obtain ⟨P, S, kn, hPS, hkn, rfl, rfl, hS, hsi⟩ := hrel
          have HS := Lib.hid hS; clear hS
          have HPS := Lib.hid hPS; clear hPS
          by_cases hP : P = []
          · subst hP
            simp only [List.length_nil] at hkn
            subst hkn
            have HE := Lib.hid (insM_between (x := x) (A := []) (B := S) (by rw [← HPS.out]; exact HSR.out) (by rw [← HPS.out]; exact HH.out) HS.out (fun a ha => by cases ha))
            go_wp2_with fail
            go_quiet (fail)
            go_wp2_with fail
            go_roundg (c.length - (j + 1))
            case measure => omega
            case rel =>
              refine ⟨j + 1, by omega, rfl, by go_num, ?_⟩
              rw [HT.out, show insM x L = [] ++ x :: S by rw [HPS.out]; exact HE.out.symm]
              exact (SL.St.drewN hsi _)
          · obtain ⟨Q, y, rfl⟩ : ∃ Q y, P = Q ++ [y] := ⟨P.dropLast, P.getLast hP, (List.dropLast_concat_getLast hP).symm⟩
            rw [List.length_append, List.length_singleton] at hkn
            have e1 : ((kn : Int) - 1).toNat = Q.length := by omega
            have e2 : 0 ≤ (kn : Int) - 1 := by omega
            have e3 : 0 < kn := by omega
            have hLk : (Q ++ [y] ++ S).length = L.length := by rw [HPS.out]
            rw [List.length_append, List.length_append, List.length_singleton] at hLk
            have e4 : (kn : Int) - 1 < (L.length : Int) + 1 := by omega
            have e5 : kn < L.length + 1 := by omega
            obtain ⟨c1, f1⟩ := hsi.arr_cell1 rfl kn x (by rw [hkn, List.getElem?_append_right (by simp)]; simp) _ rfl
            obtain ⟨c0, f0⟩ := hsi.arr_cell1 rfl Q.length y (by rw [List.append_assoc, List.getElem?_append_right (Nat.le_refl _), Nat.sub_self]; rfl) _ rfl
            obtain ⟨y1, y2⟩ := HLB.out y (by rw [HPS.out]; simp)
            have aw := fun (W : World) => ahead_walk W x y ⟨hx1, hx2⟩ ⟨y1, y2⟩
            have HK := Lib.hid hkn
            clear hkn hLk
            cases ha : aheadM x y with
            | true =>
              rw [ha] at aw
              have HA := Lib.hid ha; clear ha
              have HEQ := Lib.hid (show ((Q ++ [y] ++ x :: S).set kn y).set Q.length x = Q ++ x :: (y :: S) by
                rw [HK.out, show Q.length + 1 = (Q ++ [y]).length by simp, List.set_append_right _ _ (Nat.le_refl _), Nat.sub_self, List.set_cons_zero, List.append_assoc, List.set_append_right _ _ (Nat.le_refl _), Nat.sub_self]; rfl)
              go_wp2_with fail
              go_quiet ((go_at_call 71; exact Calls.quiet_of_same (aw _)))
              have hsq := SL.St.drewN hsi nq
              have hs1 := hsq.arr_set1 rfl kn (by rw [HK.out]; simp) y _ rfl
              have hs2 := hs1.arr_set1 rfl Q.length (by simp) x _ rfl
              rw [HEQ.out] at hs2
              go_wp2_with fail
              go_roundg Q.length
              case measure => have := HK.out; omega
              case rel =>
                refine ⟨Q, y :: S, Q.length, by rw [HPS.out, List.append_assoc]; rfl, rfl, rfl, by go_num, fun b hb => ?_, hs2⟩
                rcases List.mem_cons.1 hb with rfl | hb
                · exact HA.out
                · exact HS.out b hb
            | false =>
              rw [ha] at aw
              have HE := Lib.hid (insM_between (x := x) (A := Q ++ [y]) (B := S) (by rw [← HPS.out]; exact HSR.out) (by rw [← HPS.out]; exact HH.out) HS.out (fun a ha2 => by simp at ha2; subst ha2; exact ha))
              clear ha
              go_wp2_with fail
              go_quiet ((go_at_call 71; exact Calls.quiet_of_same (aw _)))
              go_wp2_with fail
              go_roundg (c.length - (j + 1))
              case measure => omega
              case rel =>
                refine ⟨j + 1, by omega, rfl, by go_num, ?_⟩
                rw [HT.out, show insM x L = Q ++ [y] ++ x :: S by rw [HPS.out]; exact HE.out.symm]
                exact (SL.St.drewN hsi _)
    · obtain rfl : j = c.length := by omega
      rw [List.take_length] at hsr
      go_wp2_with fail
      go_ret
      exact ⟨_, rfl, hsr⟩
theorem twofold_walk (w : World) (v : Value) (c : List Int) (hr : Rd (cInt .i64) v c w) (hb : ∀ x ∈ c, -1048576 ≤ x ∧ x ≤ 1048576) :
    Calls Tryd.prog 57 #[v] w fun e w' => e = .returned (.bool (twoM c)) ∧ w' = w := by
  have HW := fun x => has_walk w v c hr x
  obtain ⟨A, cc, rfl, hm, hc⟩ := hr
  unfold maxLen at hm
  have hD : twoM c = c.any fun x => c.contains (-x) := rfl
  generalize twoM c = D at *
  have HD := Lib.hid hD; clear hD
  go_enter Tryd.func57, Tryd.ntmps57
  go_wp2_with fail
  go_loop [3] (fun i => ∃ k : Nat, k ≤ c.length ∧ i = .int .i64 k ∧ (c.take k).any (fun x => c.contains (-x)) = false) (fun i => c.length - (intOf i).toNat)
  case atStart => exact ⟨0, Nat.zero_le _, rfl, rfl⟩
  case round =>
    obtain ⟨k, hk, rfl, hno⟩ := hrel
    have HNO := Lib.hid hno; clear hno
    by_cases hlt : k < c.length
    · obtain ⟨ad, rfl, hcell⟩ := rd_at_int hc k hlt
      have HT := Lib.hid (show c.take (k + 1) = c.take k ++ [c[k]] by rw [List.take_succ_eq_append_getElem hlt])
      have hmem : c[k] ∈ c := List.getElem_mem hlt
      obtain ⟨b1, b2⟩ := hb _ hmem
      clear hc hb
      generalize c[k] = y at *
      have HW2 := HW (-y)
      clear HW
      cases hx : c.contains (-y) with
      | true =>
        rw [hx] at HW2
        have HDT := Lib.hid (show D = true by rw [HD.out, List.any_eq_true]; exact ⟨y, hmem, hx⟩)
        clear hx
        go_wp2_with (go_at_call 24; refine HW2.mono ?_; rintro e w' ⟨rfl, rfl⟩)
        go_ret
        exact ⟨by rw [HDT.out]; rfl, rfl⟩
      | false =>
        rw [hx] at HW2
        have HX := Lib.hid hx; clear hx
        go_wp2_with (go_at_call 24; refine HW2.mono ?_; rintro e w' ⟨rfl, rfl⟩)
        go_round
        case rel => exact ⟨k + 1, by omega, by go_num, by rw [HT.out, List.any_append, HNO.out]; simp only [List.any_cons, List.any_nil, Bool.or_false, Bool.false_or]; exact HX.out⟩
        case measure => simp [intOf]; omega
    · obtain rfl : k = c.length := by omega
      have HDF := Lib.hid (show D = false by rw [HD.out]; have := HNO.out; rwa [List.take_length] at this)
      clear hc hb HW
      go_wp2_with fail
      go_ret
      exact ⟨by rw [HDF.out]; rfl, rfl⟩

set_option maxRecDepth 100000 in
set_option maxHeartbeats 4000000 in
theorem rnorm_walk (w0 w : World) (l : List HP) (h : SL.St w0 l w) (v : Value) (c : List Int) (hr : Ent l (Rd (cInt .i64) v c)) (hI : ∀ x ∈ c, I64 x) :
    Calls Tryd.prog 62 #[v] w fun e w' => ∃ v', e = .returned (.tuple #[v', .bool (normT c), .int .i64 (normE c)]) ∧ SL.St w0 (Arr (cInt .i64) 3 v' (normS c) :: l) w' := by
  obtain ⟨A, cc, rfl, hm, hc⟩ := hr.use h
  unfold maxLen at hm
  have hE : normE c = if 65536 < c.length then 22 else if c.any (fun l => !litOk l) = true then 20 else 0 := rfl
  have hS : normS c = if normE c = 0 then setM c else [] := rfl
  have hT : normT c = if normE c = 0 then twoM (setM c) else false := rfl
  generalize normS c = S at *
  generalize normT c = T at *
  generalize normE c = E at *
  have H := Lib.hid h; clear h
  by_cases f1 : 65536 < c.length
  · have e1 : decide ((65536 : Int) < (c.length : Int)) = true := decide_eq_true (by omega)
    rw [if_pos f1] at hE
    subst hE
    rw [if_neg (by decide)] at hS hT
    subst hS; subst hT
    clear f1 hc hI hr
    go_enter Tryd.func62, Tryd.ntmps62
    go_wp2_with fail
    go_ret3
    exact ⟨_, rfl, H.out.rows_nil (cInt .i64) 3⟩
  have e1 : decide ((65536 : Int) < (c.length : Int)) = false := decide_eq_false (by omega)
  have hl1 : c.length ≤ 65536 := by omega
  rw [if_neg f1] at hE
  have HE := Lib.hid hE; have HS := Lib.hid hS; have HT := Lib.hid hT
  have HR0 := Lib.hid hr
  clear hE hS hT f1 hr
  go_enter Tryd.func62, Tryd.ntmps62
  go_wp2_with fail
  go_loop [5] (fun i => ∃ k : Nat, k ≤ c.length ∧ i = .int .i64 k ∧ (c.take k).any (fun l => !litOk l) = false) (fun i => c.length - (intOf i).toNat)
  case atStart => exact ⟨0, Nat.zero_le _, rfl, rfl⟩
  case round =>
    obtain ⟨k, hk, rfl, hno⟩ := hrel
    have HNO := Lib.hid hno; clear hno
    by_cases hlt : k < c.length
    · obtain ⟨ad, rfl, hcell⟩ := rd_at_int hc k hlt
      have hbl := hI _ (List.getElem_mem hlt)
      have HTK := Lib.hid (show c.take (k + 1) = c.take k ++ [c[k]] by rw [List.take_succ_eq_append_getElem hlt])
      have hmem : c[k] ∈ c := List.getElem_mem hlt
      clear hc hI
      generalize c[k] = y at *
      have LW := rlit_walk w y hbl
      cases hlit : litOk y with
      | false =>
        rw [hlit] at LW
        have HB := Lib.hid (show c.any (fun l => !litOk l) = true by rw [List.any_eq_true]; exact ⟨y, hmem, by rw [hlit]; rfl⟩)
        have HE2 := Lib.hid (HE.out.trans (if_pos HB.out))
        clear hlit
        go_wp2_with (go_at_call 54; refine LW.mono ?_; rintro e w' ⟨rfl, rfl⟩)
        go_ret3
        refine ⟨_, by rw [HE2.out, HT.out, HE2.out, if_neg (by decide)]; rfl, ?_⟩
        rw [HS.out, HE2.out, if_neg (by decide)]
        exact H.out.rows_nil (cInt .i64) 3
      | true =>
        rw [hlit] at LW
        have HL := Lib.hid hlit; clear hlit
        go_wp2_with (go_at_call 54; refine LW.mono ?_; rintro e w' ⟨rfl, rfl⟩)
        go_round
        case rel => exact ⟨k + 1, by omega, by go_num, by rw [HTK.out, List.any_append, HNO.out]; simp [HL.out]⟩
        case measure => simp [intOf]; omega
    · obtain rfl : k = c.length := by omega
      have h1 := HNO.out
      rw [List.take_length] at h1
      have HE2 := Lib.hid (HE.out.trans (if_neg (by rw [h1]; exact Bool.false_ne_true)))
      have hlits : ∀ x ∈ c, litOk x = true := fun x hx => by
        cases hl : litOk x with
        | true => rfl
        | false => rw [List.any_eq_true.2 ⟨x, hx, by rw [hl]; rfl⟩] at h1; cases h1
      have NW := set_walk w0 w l H.out _ c HR0.out hlits (by omega)
      have HB := Lib.hid (show ∀ x ∈ setM c, -1048576 ≤ x ∧ x ≤ 1048576 from fun x hx => (litOk_iff.1 (hlits x (setM_mem.1 hx))).2)
      clear h1 HNO hc hI hlits
      generalize setM c = SM at *
      go_wp2_with fail
      refine NW.mono ?_
      rintro e w1 ⟨v1, rfl, h2⟩
      have TW := twofold_walk w1 v1 SM h2.rd HB.out
      generalize twoM SM = TM at *
      go_wp2_with (go_at_call 57; refine TW.mono ?_; rintro e w' ⟨rfl, rfl⟩)
      go_ret3
      refine ⟨_, by rw [HE2.out, HT.out, HE2.out, if_pos rfl]; rfl, ?_⟩
      rw [HS.out, HE2.out, if_pos rfl]
      exact h2
end Go.Proofs.YtnmkdhoijdoccaaDoor
