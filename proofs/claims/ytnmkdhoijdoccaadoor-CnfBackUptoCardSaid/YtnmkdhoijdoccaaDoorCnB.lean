/- The program's fault, Check, Under. -/
import Derived.Test.YtnmkdhoijdoccaaDoorCnA
import Derived.Test.YtnmkdhoijdoccaaDoorCnfU
set_option linter.unusedVariables false
set_option linter.unusedSimpArgs false
namespace Go.Proofs.YtnmkdhoijdoccaaDoor
open Go Go.RowKit SL

def faultM (n : Int) (c : List Int) : Int := if 65536 < c.length then 22 else if c.any (badL n) = true then 20 else 0
set_option maxHeartbeats 1000000 in
theorem fault_walk (w : World) (vc : Value) (cl : List Int) (n : Int) (hn : I64 n) (hc : Rd (cInt .i64) vc cl w) (hcb : ∀ l ∈ cl, I64 l) :
    Calls Tryd.prog 53 #[vc, .int .i64 n] w fun e w' => e = .returned (.int .i64 (faultM n cl)) ∧ w' = w := by
  obtain ⟨A, c, rfl, hml, hcc⟩ := hc
  obtain ⟨hn1, hn2⟩ := hn
  unfold maxLen at hml
  have hF : faultM n cl = if 65536 < cl.length then 22 else if cl.any (badL n) = true then 20 else 0 := rfl
  generalize faultM n cl = F at *
  by_cases f1 : 65536 < cl.length
  · have e1 : decide ((65536 : Int) < (cl.length : Int)) = true := decide_eq_true (by omega)
    have HF := Lib.hid (hF.trans (if_pos f1)); clear hF f1 hcc hcb
    go_enter Tryd.func53, Tryd.ntmps53
    go_wp2_with fail
    go_ret
    exact ⟨by rw [HF.out]; rfl, rfl⟩
  have e1 : decide ((65536 : Int) < (cl.length : Int)) = false := decide_eq_false (by omega)
  have hl1 : cl.length ≤ 65536 := by omega
  have HF := Lib.hid (hF.trans (if_neg f1)); clear hF f1
  go_enter Tryd.func53, Tryd.ntmps53
  go_wp2_with fail
  go_loop [12] (fun i => ∃ k : Nat, k ≤ cl.length ∧ i = .int .i64 k ∧ (cl.take k).any (badL n) = false) (fun i => cl.length - (intOf i).toNat)
  case atStart => exact ⟨0, Nat.zero_le _, rfl, rfl⟩
  case round =>
    obtain ⟨k, hk, rfl, hno⟩ := hrel
    have HNO := Lib.hid hno; clear hno
    by_cases hlt : k < cl.length
    · obtain ⟨ad, rfl, hcell⟩ := rd_at_int hcc k hlt
      have hbl := hcb _ (List.getElem_mem hlt)
      have HT := Lib.hid (show cl.take (k + 1) = cl.take k ++ [cl[k]] by rw [List.take_succ_eq_append_getElem hlt])
      have hmem : cl[k] ∈ cl := List.getElem_mem hlt
      have hbd : badL n cl[k] = (!litOk cl[k] || decide (n < varM cl[k])) := rfl
      clear hcc hcb
      generalize cl[k] = y at *
      have LW := lit_walk w y hbl
      cases hlit : litOk y with
      | false =>
        rw [hlit, Bool.not_false, Bool.true_or] at hbd
        rw [hlit] at LW
        have HB := Lib.hid (show cl.any (badL n) = true by rw [List.any_eq_true]; exact ⟨y, hmem, hbd⟩)
        have HF2 := Lib.hid (HF.out.trans (if_pos HB.out)); clear HF hbd hlit
        go_wp2_with (go_at_call 45; refine LW.mono ?_; rintro e w' ⟨rfl, rfl⟩)
        go_ret
        exact ⟨by rw [HF2.out]; rfl, rfl⟩
      | true =>
        rw [hlit, Bool.not_true, Bool.false_or] at hbd
        rw [hlit] at LW
        obtain ⟨hn0, hb1, hb2⟩ := litOk_iff.1 hlit
        have VW := size_walk w y (by omega) (by omega)
        obtain ⟨hvm1, hvm2⟩ : 0 ≤ varM y ∧ varM y ≤ 1048576 := by unfold varM; split <;> omega
        generalize varM y = vy at *
        clear hlit hn0
        by_cases f3 : n < vy
        · have e3 : decide (n < vy) = true := decide_eq_true f3
          rw [e3] at hbd
          have HB := Lib.hid (show cl.any (badL n) = true by rw [List.any_eq_true]; exact ⟨y, hmem, hbd⟩)
          have HF2 := Lib.hid (HF.out.trans (if_pos HB.out)); clear HF hbd f3
          go_wp2_with (first | (go_at_call 45; refine LW.mono ?_; rintro e w' ⟨rfl, rfl⟩) | (go_at_call 47; refine VW.mono ?_; rintro e w' ⟨rfl, rfl⟩))
          go_ret
          exact ⟨by rw [HF2.out]; rfl, rfl⟩
        · have e3 : decide (n < vy) = false := decide_eq_false f3
          rw [e3] at hbd
          have HBD := Lib.hid hbd; clear hbd f3
          go_wp2_with (first | (go_at_call 45; refine LW.mono ?_; rintro e w' ⟨rfl, rfl⟩) | (go_at_call 47; refine VW.mono ?_; rintro e w' ⟨rfl, rfl⟩))
          go_round
          case rel => exact ⟨k + 1, by omega, by go_num, by rw [HT.out, List.any_append, HNO.out]; simp [HBD.out]⟩
          case measure => simp [intOf]; omega
    · obtain rfl : k = cl.length := by omega
      have h1 := HNO.out
      rw [List.take_length] at h1
      have HF2 := Lib.hid (HF.out.trans (if_neg (by rw [h1]; exact Bool.false_ne_true))); clear HF h1 HNO hcc hcb
      go_wp2_with fail
      go_ret
      exact ⟨by rw [HF2.out]; rfl, rfl⟩

set_option maxRecDepth 100000 in
set_option maxHeartbeats 8000000 in
theorem check_walk (w0 w : World) (l : List HP) (h : SL.St w0 l w) (vars : Int) (hv : I64 vars) (vf : Value) (cls : List (List Int)) (hr : Ent l (Rd2 (cInt .i64) vf cls)) (hI : ∀ c ∈ cls, ∀ x ∈ c, I64 x) :
    Calls Tryd.prog 31 #[.agg #[.int .i64 vars, vf]] w fun e w' => e = .returned (.tuple #[.int .i64 (checkM vars cls).1, .int .i64 (checkM vars cls).2]) ∧ SL.St w0 l w' := by
  have h1 := h.alloc (.cells #[.int .i64 vars, vf] 24)
  obtain ⟨A, c, rfl, hm, -⟩ := (hr.use h).at
  unfold maxLen at hm
  have hvI := hv
  obtain ⟨hv1, hv2⟩ := hv
  have hC : checkM vars cls = if vars < 0 ∨ 1048576 < vars then (-1, 21) else if 1048576 < cls.length then (-1, 23) else checkFrom vars 0 0 cls := rfl
  generalize checkM vars cls = C at *
  clear h
  by_cases e1 : vars < 0
  · have d1 : decide (vars < 0) = true := decide_eq_true e1
    rw [if_pos (.inl e1)] at hC
    subst hC; clear e1
    go_enter Tryd.func31, Tryd.ntmps31
    go_wp2_with fail
    go_ret2
    exact ⟨rfl, h1.drop⟩
  have d1 : decide (vars < 0) = false := decide_eq_false e1
  have e1' : 0 ≤ vars := by omega
  by_cases e2 : 1048576 < vars
  · have d2 : decide (1048576 < vars) = true := decide_eq_true e2
    rw [if_pos (.inr e2)] at hC
    subst hC; clear e1 e2
    go_enter Tryd.func31, Tryd.ntmps31
    go_wp2_with fail
    go_ret2
    exact ⟨rfl, h1.drop⟩
  have d2 : decide (1048576 < vars) = false := decide_eq_false e2
  have e2' : vars ≤ 1048576 := by omega
  rw [if_neg (by omega)] at hC
  clear e1 e2
  by_cases e3 : 1048576 < cls.length
  · have d3 : decide ((1048576 : Int) < (cls.length : Int)) = true := decide_eq_true (by omega)
    rw [if_pos e3] at hC
    subst hC; clear e3
    go_enter Tryd.func31, Tryd.ntmps31
    go_wp2_with fail
    go_ret2
    exact ⟨rfl, h1.drop⟩
  have d3 : decide ((1048576 : Int) < (cls.length : Int)) = false := decide_eq_false (by omega)
  have e3' : cls.length ≤ 1048576 := by omega
  rw [if_neg e3] at hC
  have HC := Lib.hid hC; clear hC e3
  obtain ⟨A', c', hv, -, hcc⟩ := (hr.use h1.drop).at
  obtain rfl : A = A' := by injection hv
  clear hv
  have H1 := Lib.hid h1; clear h1
  go_enter Tryd.func31, Tryd.ntmps31
  go_wp2_with fail
  have g0 : World.cell? _ ⟨w.heap.size, 0, none⟩ = some (.int .i64 vars) := H1.out.cell 0
  generalize w.heap.size = B at *
  generalize World.alloc w _ = w1 at *
  clear d1 d2 d3
  have HCC := Lib.hid hcc; clear hcc
  go_loop [4, 25] (fun li i => ∃ j all : Nat, j ≤ cls.length ∧ i = .int .i64 j ∧ li = .int .i64 all ∧ all ≤ 4194304 ∧ C = checkFrom vars j all (cls.drop j)) (fun _ i => cls.length - (intOf i).toNat)
  case atStart => exact ⟨0, 0, Nat.zero_le _, rfl, rfl, by omega, HC.out⟩
  case round =>
    clear HC
    obtain ⟨j, all, hj, rfl, rfl, hall, hC⟩ := hrel
    have HC := Lib.hid hC; clear hC
    by_cases hlt : j < cls.length
    · obtain ⟨ad, Bc, nc, cc, hA', hcell, hrc⟩ := HCC.out j _ (List.getElem?_eq_getElem hlt)
      subst hA'
      have HC2 := Lib.hid (show C = if 65536 < cls[j].length then ((j : Int), 22) else if cls[j].any (badL vars) = true then ((j : Int), 20) else if 4194304 < all + cls[j].length then ((j : Int), 23) else checkFrom vars (j + 1) (all + cls[j].length) (cls.drop (j + 1)) by
        rw [HC.out, List.drop_eq_getElem_cons hlt, checkFrom])
      have hIx := hI _ (List.getElem_mem hlt)
      have FW := fault_walk w1 _ cls[j] vars hvI hrc hIx
      have hF : faultM vars cls[j] = if 65536 < cls[j].length then 22 else if cls[j].any (badL vars) = true then 20 else 0 := rfl
      clear HC hIx
      generalize hx : cls[j] = x at *
      clear hx
      obtain ⟨Bc', c2, hv, hxm, -⟩ := hrc
      obtain ⟨rfl, rfl, rfl⟩ : Bc = Bc' ∧ nc = x.length ∧ cc = c2 := by injection hv with h1 h2 h3; exact ⟨h1, h2, h3⟩
      unfold maxLen at hxm
      clear hv
      by_cases f1 : 65536 < x.length
      · rw [if_pos f1] at hF
        rw [hF] at FW
        have HC3 := Lib.hid (HC2.out.trans (if_pos f1)); clear HC2 f1 hF
        go_wp2_with (go_at_call 53; refine FW.mono ?_; rintro e w' ⟨rfl, rfl⟩)
        go_ret2
        exact ⟨by rw [HC3.out]; rfl, H1.out.drop⟩
      have f1' : x.length ≤ 65536 := by omega
      rw [if_neg f1] at hF
      have HC3 := Lib.hid (HC2.out.trans (if_neg f1)); clear HC2 f1
      cases f2 : x.any (badL vars) with
      | true =>
        rw [if_pos f2] at hF
        rw [hF] at FW
        have HC4 := Lib.hid (HC3.out.trans (if_pos f2)); clear HC3 f2 hF
        go_wp2_with (go_at_call 53; refine FW.mono ?_; rintro e w' ⟨rfl, rfl⟩)
        go_ret2
        exact ⟨by rw [HC4.out]; rfl, H1.out.drop⟩
      | false =>
        rw [if_neg (by rw [f2]; exact Bool.false_ne_true)] at hF
        rw [hF] at FW
        have HC4 := Lib.hid (HC3.out.trans (if_neg (by rw [f2]; exact Bool.false_ne_true))); clear HC3 f2 hF
        by_cases f3 : 4194304 < all + x.length
        · have e3 : decide ((4194304 : Int) < (all : Int) + (x.length : Int)) = true := decide_eq_true (by omega)
          have HC5 := Lib.hid (HC4.out.trans (if_pos f3)); clear HC4 f3
          go_wp2_with (go_at_call 53; refine FW.mono ?_; rintro e w' ⟨rfl, rfl⟩)
          go_ret2
          exact ⟨by rw [HC5.out]; rfl, H1.out.drop⟩
        · have e3 : decide ((4194304 : Int) < (all : Int) + (x.length : Int)) = false := decide_eq_false (by omega)
          have f3' : all + x.length ≤ 4194304 := by omega
          have HC5 := Lib.hid (HC4.out.trans (if_neg f3)); clear HC4 f3
          go_wp2_with (go_at_call 53; refine FW.mono ?_; rintro e w' ⟨rfl, rfl⟩)
          go_round
          case rel => exact ⟨j + 1, all + x.length, by omega, by go_num, by go_num, f3', HC5.out⟩
          case measure => simp [intOf]; omega
    · obtain rfl : j = cls.length := by omega
      have HC2 := Lib.hid (show C = (0, 0) by rw [HC.out, List.drop_length, checkFrom])
      go_wp2_with fail
      go_ret2
      exact ⟨by rw [HC2.out]; rfl, H1.out.drop⟩

set_option maxRecDepth 100000 in
set_option maxHeartbeats 8000000 in
theorem under_walk (w0 w : World) (l : List HP) (h : SL.St w0 l w) (vars : Int) (hv : I64 vars) (vf vm : Value) (cls : List (List Int)) (m : List Int) (hr : Ent l (Rd2 (cInt .i64) vf cls)) (hI : ∀ c ∈ cls, ∀ x ∈ c, I64 x) (hm : Ent l (Rd (cInt .i8) vm m)) (hb : ∀ x ∈ m, -128 ≤ x ∧ x ≤ 127) :
    Calls Tryd.prog 19 #[.agg #[.int .i64 vars, vf], vm] w fun e w' => e = .returned (.tuple #[.int .i8 (underM vars cls m).1, .int .i64 (underM vars cls m).2.1, .int .i64 (underM vars cls m).2.2]) ∧ SL.St w0 l w' := by
  have h1 := h.alloc (.cells #[.int .i64 vars, vf] 24)
  obtain ⟨A, c, rfl, hml, -⟩ := (hr.use h).at
  unfold maxLen at hml
  have cw := check_walk w0 _ _ h1 vars hv (.slice A cls.length c) cls (Ent.tail hr) hI
  have hcv := checkM_vals vars cls
  have hU : underM vars cls m = if (checkM vars cls).2 ≠ 0 then (0, 0, (checkM vars cls).2) else underFrom m 0 (-1) cls := rfl
  generalize underM vars cls m = U at *
  generalize checkM vars cls = C at *
  obtain ⟨place, er⟩ := C
  simp only at cw hcv hU
  have HU := Lib.hid hU; clear hU
  obtain ⟨hc1, hc2⟩ := hcv
  go_enter Tryd.func19, Tryd.ntmps19
  go_wp2_with fail
  refine cw.mono ?_
  rintro e w1 ⟨rfl, h2⟩
  generalize w.heap.size = B at *
  clear cw h h1
  by_cases e0 : er = 0
  · subst e0
    have hU2 := HU.out
    rw [if_neg (by simp)] at hU2
    have HU2 := Lib.hid hU2; clear hU2 HU
    have g0 : w1.cell? ⟨B, 0, none⟩ = some (.int .i64 vars) := h2.cell 0
    have g1 : w1.cell? ⟨B, 1, none⟩ = some (.slice A cls.length c) := h2.cell 1
    obtain ⟨A', c', hv, -, hcc⟩ := (hr.use h2.drop).at
    obtain rfl : A = A' := by injection hv
    have hmr := hm.use h2.drop
    have HCC := Lib.hid hcc; have H2 := Lib.hid h2
    clear hcc h2 hv
    go_wp2_with fail
    go_loop [9, 23] (fun o i => ∃ (j : Nat) (op : Int), j ≤ cls.length ∧ i = .int .i64 j ∧ o = .int .i64 op ∧ -1 ≤ op ∧ op ≤ cls.length ∧ U = underFrom m j op (cls.drop j)) (fun _ i => cls.length - (intOf i).toNat)
    case atStart => exact ⟨0, -1, Nat.zero_le _, rfl, rfl, by omega, by omega, HU2.out⟩
    case round =>
      obtain ⟨j, op, hj, rfl, rfl, ho1, ho2, hu⟩ := hrel
      have HU3 := Lib.hid hu; clear hu HU2
      by_cases hlt : j < cls.length
      · obtain ⟨ad, Bc, nc, cc, hA', hcell, hrc⟩ := HCC.out j _ (List.getElem?_eq_getElem hlt)
        subst hA'
        have HC2 := Lib.hid (show U = if valM cls[j] m = -1 then (-1, (j : Int), 0) else underFrom m (j + 1) (if valM cls[j] m = 0 ∧ op < 0 then (j : Int) else op) (cls.drop (j + 1)) by
          rw [HU3.out, List.drop_eq_getElem_cons hlt, underFrom])
        have vw := value_walk w1 _ vm cls[j] m hrc (hI _ (List.getElem_mem hlt)) hmr hb
        have hvv := valM_vals cls[j] m
        clear HU3 hrc
        generalize valM cls[j] m = V at *
        rcases hvv with rfl | rfl | rfl
        · by_cases o0 : op < 0
          · have d0 : decide (op < 0) = true := decide_eq_true o0
            have HC3 := Lib.hid (HC2.out.trans (if_neg (by decide))); clear HC2
            have HC4 := Lib.hid (show U = underFrom m (j + 1) (j : Int) (cls.drop (j + 1)) by rw [HC3.out, if_pos ⟨rfl, o0⟩]); clear HC3 o0
            go_wp2_with (go_at_call 37; refine vw.mono ?_; rintro e w' ⟨rfl, rfl⟩)
            go_round
            case rel => exact ⟨j + 1, (j : Int), by omega, by go_num, rfl, by omega, by omega, HC4.out⟩
            case measure => simp [intOf]; omega
          · have d0 : decide (op < 0) = false := decide_eq_false o0
            have HC3 := Lib.hid (HC2.out.trans (if_neg (by decide))); clear HC2
            have HC4 := Lib.hid (show U = underFrom m (j + 1) op (cls.drop (j + 1)) by rw [HC3.out, if_neg (fun h => o0 h.2)]); clear HC3 o0
            go_wp2_with (go_at_call 37; refine vw.mono ?_; rintro e w' ⟨rfl, rfl⟩)
            go_round
            case rel => exact ⟨j + 1, op, by omega, by go_num, rfl, by omega, by omega, HC4.out⟩
            case measure => simp [intOf]; omega
        · have HC3 := Lib.hid (HC2.out.trans (if_neg (by decide))); clear HC2
          have HC4 := Lib.hid (show U = underFrom m (j + 1) op (cls.drop (j + 1)) by rw [HC3.out, if_neg (fun h => absurd h.1 (by decide))]); clear HC3
          go_wp2_with (go_at_call 37; refine vw.mono ?_; rintro e w' ⟨rfl, rfl⟩)
          go_round
          case rel => exact ⟨j + 1, op, by omega, by go_num, rfl, by omega, by omega, HC4.out⟩
          case measure => simp [intOf]; omega
        · have HC3 := Lib.hid (HC2.out.trans (if_pos rfl)); clear HC2
          go_wp2_with (go_at_call 37; refine vw.mono ?_; rintro e w' ⟨rfl, rfl⟩)
          go_ret3
          exact ⟨by rw [HC3.out]; rfl, H2.out.drop⟩
      · obtain rfl : j = cls.length := by omega
        have HC2 := Lib.hid (show U = if 0 ≤ op then (0, op, 0) else (1, (cls.length : Int), 0) by rw [HU3.out, List.drop_length, underFrom]); clear HU3
        by_cases o0 : 0 ≤ op
        · have HC3 := Lib.hid (HC2.out.trans (if_pos o0)); clear HC2
          go_wp2_with fail
          go_ret3
          exact ⟨by rw [HC3.out]; rfl, H2.out.drop⟩
        · have HC3 := Lib.hid (HC2.out.trans (if_neg o0)); clear HC2
          go_wp2_with fail
          go_quiet (fail)
          go_wp2_with fail
          go_ret3
          exact ⟨by rw [HC3.out]; rfl, H2.out.drop.drewN _⟩
  · have d0 : (er != 0) = true := by simp [e0]
    have hU2 := HU.out
    rw [if_pos e0] at hU2
    have HU2 := Lib.hid hU2; clear hU2 HU e0
    go_wp2_with fail
    go_ret3
    exact ⟨by rw [HU2.out]; rfl, h2.drop⟩
end Go.Proofs.YtnmkdhoijdoccaaDoor
