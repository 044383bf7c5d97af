/- The program's size, Lit, order, Of, Value. -/
import Derived.Test.YtnmkdhoijdoccaaDoorCnP
set_option linter.unusedVariables false
set_option linter.unusedSimpArgs false
namespace Go.Proofs.YtnmkdhoijdoccaaDoor
open Go Go.RowKit SL

theorem size_walk (w : World) (l : Int) (h1 : -9223372036854775807 ≤ l) (h2 : l ≤ 9223372036854775807) :
    Calls Tryd.prog 47 #[.int .i64 l] w fun e w' => e = .returned (.int .i64 (varM l)) ∧ w' = w := by
  have hV : varM l = if l < 0 then -l else l := rfl
  generalize varM l = V at *
  by_cases e : l < 0
  · rw [if_pos e] at hV
    have HV := Lib.hid hV; clear hV
    go_enter Tryd.func47, Tryd.ntmps47
    go_wp2
    go_ret
    exact ⟨by rw [HV.out]; rfl, rfl⟩
  · rw [if_neg e] at hV
    have HV := Lib.hid hV; clear hV
    have e' : 0 ≤ l := by omega
    clear e
    go_enter Tryd.func47, Tryd.ntmps47
    go_wp2
    go_ret
    exact ⟨by rw [HV.out]; rfl, rfl⟩
theorem lit_walk (w : World) (l : Int) (h : I64 l) :
    Calls Tryd.prog 45 #[.int .i64 l] w fun e w' => e = .returned (.bool (litOk l)) ∧ w' = w := by
  obtain ⟨h1, h2⟩ := h
  have hL : litOk l = (l != 0 && decide (-1048576 ≤ l) && decide (l ≤ 1048576)) := rfl
  generalize litOk l = L at *
  by_cases e0 : l = 0
  · have d0 : (l != 0) = false := by simp [e0]
    rw [d0] at hL; simp only [Bool.false_and] at hL
    subst hL; clear e0
    go_enter Tryd.func45, Tryd.ntmps45
    go_wp2
    go_ret
    exact ⟨rfl, rfl⟩
  have d0 : (l != 0) = true := by simp [e0]
  by_cases e1 : -1048576 ≤ l
  · have d1 : decide (-1048576 ≤ l) = true := decide_eq_true e1
    by_cases e2 : l ≤ 1048576
    · have d2 : decide (l ≤ 1048576) = true := decide_eq_true e2
      rw [d0, d1, d2] at hL; simp only [Bool.and_self] at hL
      subst hL; clear e0
      go_enter Tryd.func45, Tryd.ntmps45
      go_wp2
      go_ret
      exact ⟨rfl, rfl⟩
    · have d2 : decide (l ≤ 1048576) = false := decide_eq_false e2
      rw [d0, d1, d2] at hL; simp only [Bool.and_false] at hL
      subst hL; clear e0
      go_enter Tryd.func45, Tryd.ntmps45
      go_wp2
      go_ret
      exact ⟨rfl, rfl⟩
  · have d1 : decide (-1048576 ≤ l) = false := decide_eq_false e1
    rw [d0, d1] at hL; simp only [Bool.and_false, Bool.false_and] at hL
    subst hL; clear e0
    go_enter Tryd.func45, Tryd.ntmps45
    go_wp2
    go_ret
    exact ⟨rfl, rfl⟩

theorem order_walk (w : World) (x y : Int) (hx : -1048576 ≤ x ∧ x ≤ 1048576) (hy : -1048576 ≤ y ∧ y ≤ 1048576) :
    Calls Tryd.prog 67 #[.int .i64 x, .int .i64 y] w fun e w' => e = .returned (.int .i64 (cfM x y)) ∧ w' = w := by
  have hC : cfM x y = if varM x = varM y then y - x else varM x - varM y := rfl
  generalize cfM x y = C at *
  obtain ⟨x1, x2⟩ := hx
  obtain ⟨y1, y2⟩ := hy
  have S := fun z h1 h2 => size_walk w z h1 h2
  obtain ⟨vx1, vx2⟩ : 0 ≤ varM x ∧ varM x ≤ 1048576 := by unfold varM; split <;> omega
  obtain ⟨vy1, vy2⟩ : 0 ≤ varM y ∧ varM y ≤ 1048576 := by unfold varM; split <;> omega
  by_cases e : varM x = varM y
  · rw [if_pos e] at hC
    have d : (varM x != varM y) = false := by simp [e]
    have HC := Lib.hid hC; clear hC e
    go_enter Tryd.func67, Tryd.ntmps67
    go_wp2_with (go_at_call 47; refine (S _ (by omega) (by omega)).mono ?_; rintro e w' ⟨rfl, rfl⟩)
    go_ret
    exact ⟨by rw [HC.out]; rfl, rfl⟩
  · rw [if_neg e] at hC
    have d : (varM x != varM y) = true := by simp [e]
    have HC := Lib.hid hC; clear hC e
    go_enter Tryd.func67, Tryd.ntmps67
    go_wp2_with (go_at_call 47; refine (S _ (by omega) (by omega)).mono ?_; rintro e w' ⟨rfl, rfl⟩)
    go_ret
    exact ⟨by rw [HC.out]; rfl, rfl⟩
set_option maxHeartbeats 1000000 in
theorem of_walk (w : World) (v : Value) (m : List Int) (hm : Rd (cInt .i8) v m w) (hb : ∀ x ∈ m, -128 ≤ x ∧ x ≤ 127) (l : Int) (hl : I64 l) :
    Calls Tryd.prog 60 #[v, .int .i64 l] w fun e w' => e = .returned (.int .i8 (ofM m l)) ∧ w' = w := by
  obtain ⟨A, c, rfl, hml, hc⟩ := hm
  unfold maxLen at hml
  have hO : ofM m l = if litOk l = true ∧ varM l ≤ m.length then (if m.getD ((varM l).toNat - 1) 0 = 1 ∨ m.getD ((varM l).toNat - 1) 0 = -1 then (if l < 0 then -(m.getD ((varM l).toNat - 1) 0) else m.getD ((varM l).toNat - 1) 0) else 0) else 0 := rfl
  generalize ofM m l = O at *
  have LW := lit_walk w l hl
  by_cases e0 : litOk l = true
  · have hlb := litOk_iff.1 e0
    rw [e0] at LW
    obtain ⟨hn0, hb1, hb2⟩ := hlb
    have VW := size_walk w l (by omega) (by omega)
    have hv1 : 1 ≤ varM l := by unfold varM; split <;> omega
    have hv2 : varM l ≤ 1048576 := by unfold varM; split <;> omega
    generalize varM l = V at *
    by_cases e1 : V ≤ m.length
    · have d1 : decide (V > (m.length : Int)) = false := decide_eq_false (by omega)
      have d1' : decide ((m.length : Int) < V) = false := decide_eq_false (by omega)
      rw [if_pos ⟨e0, e1⟩] at hO
      have hi : V.toNat - 1 < m.length := by omega
      obtain ⟨ad, rfl, hcell⟩ := rd_at_int hc _ hi
      have hx := hb _ (List.getElem_mem hi)
      have hg : m.getD (V.toNat - 1) 0 = m[V.toNat - 1] := by simp [List.getD_eq_getElem?_getD, hi]
      rw [hg] at hO
      clear hc hb hg
      generalize m[V.toNat - 1] = x at *
      have hidx : (V - 1).toNat = V.toNat - 1 := by omega
      have hidx2 : 0 ≤ V - 1 := by omega
      have hidx3 : V - 1 < m.length := by omega
      generalize V.toNat - 1 = i at *
      have HI := Lib.hid hidx; 
      by_cases x1 : x = 1 ∨ x = -1
      · rw [if_pos x1] at hO
        by_cases l0 : l < 0
        · rw [if_pos l0] at hO
          have HO := Lib.hid hO; clear hO hn0
          rcases x1 with rfl | rfl
          · go_enter Tryd.func60, Tryd.ntmps60
            go_wp2_with (first | (go_at_call 45; refine LW.mono ?_; rintro e w' ⟨rfl, rfl⟩) | (go_at_call 47; refine VW.mono ?_; rintro e w' ⟨rfl, rfl⟩))
            go_ret
            exact ⟨by rw [HO.out]; rfl, rfl⟩
          · go_enter Tryd.func60, Tryd.ntmps60
            go_wp2_with (first | (go_at_call 45; refine LW.mono ?_; rintro e w' ⟨rfl, rfl⟩) | (go_at_call 47; refine VW.mono ?_; rintro e w' ⟨rfl, rfl⟩))
            go_ret
            exact ⟨by rw [HO.out]; rfl, rfl⟩
        · rw [if_neg l0] at hO
          have HO := Lib.hid hO; clear hO hn0
          have l0' : 0 ≤ l := by omega
          clear l0
          rcases x1 with rfl | rfl
          · go_enter Tryd.func60, Tryd.ntmps60
            go_wp2_with (first | (go_at_call 45; refine LW.mono ?_; rintro e w' ⟨rfl, rfl⟩) | (go_at_call 47; refine VW.mono ?_; rintro e w' ⟨rfl, rfl⟩))
            go_ret
            exact ⟨by rw [HO.out]; rfl, rfl⟩
          · go_enter Tryd.func60, Tryd.ntmps60
            go_wp2_with (first | (go_at_call 45; refine LW.mono ?_; rintro e w' ⟨rfl, rfl⟩) | (go_at_call 47; refine VW.mono ?_; rintro e w' ⟨rfl, rfl⟩))
            go_ret
            exact ⟨by rw [HO.out]; rfl, rfl⟩
      · rw [if_neg x1] at hO
        have HO := Lib.hid hO; clear hO hn0
        have q1 : (x != 1) = true := by simp; omega
        have q2 : (x != -1) = true := by simp; omega
        clear x1
        go_enter Tryd.func60, Tryd.ntmps60
        go_wp2_with (first | (go_at_call 45; refine LW.mono ?_; rintro e w' ⟨rfl, rfl⟩) | (go_at_call 47; refine VW.mono ?_; rintro e w' ⟨rfl, rfl⟩))
        go_ret
        exact ⟨by rw [HO.out]; rfl, rfl⟩
    · have d1 : decide (V > (m.length : Int)) = true := decide_eq_true (by omega)
      have d1' : decide ((m.length : Int) < V) = true := decide_eq_true (by omega)
      rw [if_neg (fun h => e1 h.2)] at hO
      have HO := Lib.hid hO; clear hO hn0 e1 hc hb
      go_enter Tryd.func60, Tryd.ntmps60
      go_wp2_with (first | (go_at_call 45; refine LW.mono ?_; rintro e w' ⟨rfl, rfl⟩) | (go_at_call 47; refine VW.mono ?_; rintro e w' ⟨rfl, rfl⟩))
      go_ret
      exact ⟨by rw [HO.out]; rfl, rfl⟩
  · have e0' : litOk l = false := by simpa using e0
    rw [e0'] at LW
    rw [if_neg (fun h => e0 h.1)] at hO
    have HO := Lib.hid hO; clear hO e0 e0' hc hb
    go_enter Tryd.func60, Tryd.ntmps60
    go_wp2_with (go_at_call 45; refine LW.mono ?_; rintro e w' ⟨rfl, rfl⟩)
    go_ret
    exact ⟨by rw [HO.out]; rfl, rfl⟩

set_option maxHeartbeats 1000000 in
theorem value_walk (w : World) (vc vm : Value) (cl m : List Int) (hc : Rd (cInt .i64) vc cl w) (hcb : ∀ l ∈ cl, I64 l) (hm : Rd (cInt .i8) vm m w) (hb : ∀ x ∈ m, -128 ≤ x ∧ x ≤ 127) :
    Calls Tryd.prog 37 #[vc, vm] w fun e w' => e = .returned (.int .i8 (valM cl m)) ∧ w' = w := by
  have ow := fun l hl => of_walk w vm m hm hb l hl
  obtain ⟨A, c, rfl, hml, hcc⟩ := hc
  unfold maxLen at hml
  have hV : valM cl m = if cl.any (fun l => ofM m l == 1) then 1 else if cl.any (fun l => ofM m l == 0) then 0 else -1 := rfl
  generalize valM cl m = V at *
  have HV := Lib.hid hV; clear hV
  go_enter Tryd.func37, Tryd.ntmps37
  go_wp2_with fail
  go_loop [5, 10] (fun o i => ∃ k : Nat, k ≤ cl.length ∧ i = .int .i64 k ∧ o = .int .i8 (if (cl.take k).any (fun l => ofM m l == 0) then 0 else -1) ∧ (cl.take k).any (fun l => ofM m l == 1) = false) (fun _ i => cl.length - (intOf i).toNat)
  case atStart => exact ⟨0, Nat.zero_le _, rfl, rfl, rfl⟩
  case round =>
    obtain ⟨k, hk, rfl, rfl, hno⟩ := hrel
    have HNO := Lib.hid hno; clear hno
    by_cases hlt : k < cl.length
    · obtain ⟨ad, rfl, hcell⟩ := rd_at_int hcc k hlt
      have hbl := hcb _ (List.getElem_mem hlt)
      have HT := Lib.hid (show cl.take (k + 1) = cl.take k ++ [cl[k]] by rw [List.take_succ_eq_append_getElem hlt])
      have hmem : cl[k] ∈ cl := List.getElem_mem hlt
      generalize hO0 : (cl.take k).any (fun l => ofM m l == 0) = o0 at *
      have HO0 := Lib.hid hO0; clear hO0 hcc hcb
      generalize cl[k] = l at *
      have OW := ow l hbl
      have hvals := ofM_vals m l
      generalize hO : ofM m l = O at *
      have HO := Lib.hid hO; clear hO ow
      generalize hoo : (if o0 = true then (0 : Int) else -1) = oo at *
      have HOO := Lib.hid hoo; clear hoo
      rcases hvals with rfl | rfl | rfl
      · go_wp2_with (go_at_call 60; refine OW.mono ?_; rintro e w' ⟨rfl, rfl⟩)
        go_round
        case rel => exact ⟨k + 1, by omega, by go_num, by rw [HT.out, List.any_append, HO0.out]; simp [HO.out], by rw [HT.out, List.any_append, HNO.out]; simp [HO.out]⟩
        case measure => simp [intOf]; omega
      · go_wp2_with (go_at_call 60; refine OW.mono ?_; rintro e w' ⟨rfl, rfl⟩)
        go_ret
        refine ⟨?_, rfl⟩
        rw [HV.out, if_pos (by rw [List.any_eq_true]; exact ⟨l, hmem, by simp [HO.out]⟩)]; rfl
      · go_wp2_with (go_at_call 60; refine OW.mono ?_; rintro e w' ⟨rfl, rfl⟩)
        go_round
        case rel => exact ⟨k + 1, by omega, by go_num, by rw [HT.out, List.any_append, HO0.out, ← HOO.out]; simp [HO.out], by rw [HT.out, List.any_append, HNO.out]; simp [HO.out]⟩
        case measure => simp [intOf]; omega
    · obtain rfl : k = cl.length := by omega
      have h1 := HNO.out
      rw [List.take_length] at h1 ⊢
      have HV2 := Lib.hid (show V = if cl.any (fun l => ofM m l == 0) then 0 else -1 by rw [HV.out, if_neg (by rw [h1]; exact Bool.false_ne_true)])
      clear h1 ow hcb hcc
      generalize (if cl.any (fun l => ofM m l == 0) = true then (0 : Int) else -1) = b at *
      go_wp2_with fail
      go_ret
      exact ⟨by rw [HV2.out]; rfl, rfl⟩
end Go.Proofs.YtnmkdhoijdoccaaDoor
