/- A text's head: both readers. -/
import Derived.Test.YtnmkdhoijdoccaaDoorCnWd
set_option linter.unusedVariables false
set_option linter.unusedSimpArgs false
namespace Go.Proofs.YtnmkdhoijdoccaaDoor
open Go Go.RowKit SL

theorem rd_str {w : World} {A : Option Addr} {xs : List ByteArray} (hc : ∀ i x, xs[i]? = some x → ∃ ad, A = some ad ∧ ∀ j u, (cStr.enc x)[j]? = some u → w.cell? (ad.add (i * cStr.sz + j)) = some u)
    (i : Nat) (x : ByteArray) (h : xs[i]? = some x) : ∃ ad, A = some ad ∧ w.cell? (ad.add i) = some (.string x) := by
  obtain ⟨ad, e, hr⟩ := hc i x h
  refine ⟨ad, e, ?_⟩
  have := hr 0 _ rfl
  simpa [cStr] using this
theorem str_eq (a : ByteArray) (l : List UInt8) : (a.toList == l) = decide (a = mkB l) := by
  rw [Bool.eq_iff_iff, beq_iff_eq, decide_eq_true_eq, ByteArray.toList_eq]
  constructor
  · rintro rfl; exact (mkB_data a).symm
  · rintro rfl; rfl

set_option maxRecDepth 100000 in
set_option maxHeartbeats 4000000 in
theorem head_walk (w0 w : World) (l : List HP) (R : Nat) (s : Rst) (v : Value) (ws : List ByteArray) (h : RP w0 R s (Arr cStr 9 v ws :: l) w) :
    Calls Tryd.prog 51 #[.pointer (some ⟨R, 0, none⟩), v] w fun e w' => e = .returned (.int .i64 (headM ws).1) ∧ RP w0 R (headS s (headM ws)) (Arr cStr 9 v ws :: l) w' := by
  obtain ⟨vc, vo, qs, hq, h⟩ := h
  obtain ⟨V, C, bg, M, Lt, O, inn⟩ := s
  simp only at hq h ⊢
  unfold cellsP at h
  simp only at h
  by_cases e4 : ws.length = 4
  · obtain ⟨a, b, x, y, rfl⟩ : ∃ a b x y, ws = [a, b, x, y] := by
      match ws, e4 with
      | [a, b, x, y], _ => exact ⟨a, b, x, y, rfl⟩
    clear e4
    obtain ⟨gg, c, rfl⟩ := (h.pull 4).arr_form (by simp)
    have q0 := ((h.pull 4).arr_cell1 rfl 0 a rfl _ rfl).1
    have q1 := ((h.pull 4).arr_cell1 rfl 1 b rfl _ rfl).1
    have q2 := ((h.pull 4).arr_cell1 rfl 2 x rfl _ rfl).1
    have q3 := ((h.pull 4).arr_cell1 rfl 3 y rfl _ rfl).1
    have hU : headM [a, b, x, y] = if a ≠ ⟨#[112]⟩ ∨ b ≠ ⟨#[99, 110, 102]⟩ then (3, 0, 0) else
        if (numM x false).2 = false ∨ (numM y false).2 = false then (3, 0, 0) else
        if 1048576 < (numM x false).1 then (21, 0, 0) else if 1048576 < (numM y false).1 then (23, 0, 0) else
        (0, (numM x false).1, (numM y false).1) := by simp [headM]
    have NW := fun (w' : World) (l' : List HP) (h : SL.St w0 l' w') (z : ByteArray) => number_walk w0 w' l' h z false
    generalize headM [a, b, x, y] = U at *
    have NW1 := fun w' l' h => NW w' l' h x
    have NW2 := fun w' l' h => NW w' l' h y
    clear NW
    generalize numM x false = N1 at *
    generalize numM y false = N2 at *
    obtain ⟨n1, ok1⟩ := N1
    obtain ⟨n2, ok2⟩ := N2
    simp only at hU NW1 NW2
    have ha := str_eq a [112]
    have hb := str_eq b [99, 110, 102]
    change (a.toList == [112]) = decide (a = ⟨#[112]⟩) at ha
    change (b.toList == [99, 110, 102]) = decide (b = ⟨#[99, 110, 102]⟩) at hb
    have HU := Lib.hid hU; clear hU
    have HQ := Lib.hid hq; clear hq
    by_cases ea : a = ⟨#[112]⟩
    · by_cases eb : b = ⟨#[99, 110, 102]⟩
      · rw [decide_eq_true ea] at ha
        rw [decide_eq_true eb] at hb
        have HU2 := Lib.hid (HU.out.trans (if_neg (by rintro (h | h); · exact h ea
                                                      · exact h eb))); clear HU
        have ha' : (a.toList != [112]) = false := by rw [bne, ha]; rfl
        have hb' : (b.toList != [99, 110, 102]) = false := by rw [bne, hb]; rfl
        clear ea eb
        go_enter Tryd.func51, Tryd.ntmps51
        go_wp2_with fail
        refine (NW1 _ _ h).mono ?_
        rintro e w1 ⟨rfl, h1⟩
        have q3 := ((h1.pull 4).arr_cell1 rfl 3 y rfl _ rfl).1
        go_wp2_with fail
        refine (NW2 _ _ h1).mono ?_
        rintro e w2 ⟨rfl, h2⟩
        clear NW1 NW2
        clear q0 q1 q2 q3 ha hb ha' hb'
        cases ok1 with
        | false =>
          have HU3 := Lib.hid (HU2.out.trans (if_pos (.inl rfl))); clear HU2
          go_wp2_with fail
          go_ret
          rw [HU3.out, headS_bad (by decide)]
          exact ⟨rfl, _, _, qs, HQ.out, h2⟩
        | true =>
          cases ok2 with
          | false =>
            have HU3 := Lib.hid (HU2.out.trans (if_pos (.inr rfl))); clear HU2
            go_wp2_with fail
            go_ret
            rw [HU3.out, headS_bad (by decide)]
            exact ⟨rfl, _, _, qs, HQ.out, h2⟩
          | true =>
            have HU3 := Lib.hid (HU2.out.trans (if_neg (by simp))); clear HU2
            by_cases g1 : 1048576 < n1
            · have HU4 := Lib.hid (HU3.out.trans (if_pos g1)); clear HU3
              have d1 : decide ((1048576 : Int) < n1) = true := decide_eq_true g1
              clear g1
              go_wp2_with fail
              go_ret
              rw [HU4.out, headS_bad (by decide)]
              exact ⟨rfl, _, _, qs, HQ.out, h2⟩
            have HU4 := Lib.hid (HU3.out.trans (if_neg g1)); clear HU3
            have d1 : decide ((1048576 : Int) < n1) = false := decide_eq_false g1
            clear g1
            by_cases g2 : 1048576 < n2
            · have HU5 := Lib.hid (HU4.out.trans (if_pos g2)); clear HU4
              have d2 : decide ((1048576 : Int) < n2) = true := decide_eq_true g2
              clear g2
              go_wp2_with fail
              go_ret
              rw [HU5.out, headS_bad (by decide)]
              exact ⟨rfl, _, _, qs, HQ.out, h2⟩
            have HU5 := Lib.hid (HU4.out.trans (if_neg g2)); clear HU4
            have d2 : decide ((1048576 : Int) < n2) = false := decide_eq_false g2
            clear g2
            have c0 := h2.cell 0
            have f0 := h2.free 0
            have c3 := h2.cell 3
            have f3 := h2.free 3
            have cb := h2.cell 2
            have fb := h2.free 2
            have hz := ((h2.set 2 (.bool true)).set 0 (.int .i64 n1)).set 3 (.int .i64 n2)
            go_wp2_with fail
            go_ret
            rw [HU5.out, headS_ok rfl]
            exact ⟨rfl, _, _, qs, HQ.out, hz⟩
      · rw [decide_eq_true ea] at ha
        rw [decide_eq_false eb] at hb
        have ha' : (a.toList != [112]) = false := by rw [bne, ha]; rfl
        have hb' : (b.toList != [99, 110, 102]) = true := by rw [bne, hb]; rfl
        have HU2 := Lib.hid (HU.out.trans (if_pos (.inr eb))); clear HU
        clear ea eb
        go_enter Tryd.func51, Tryd.ntmps51
        go_wp2_with fail
        go_ret
        rw [HU2.out, headS_bad (by decide)]
        exact ⟨rfl, _, _, qs, HQ.out, h⟩
    · rw [decide_eq_false ea] at ha
      have ha' : (a.toList != [112]) = true := by rw [bne, ha]; rfl
      have HU2 := Lib.hid (HU.out.trans (if_pos (.inl ea))); clear HU
      clear ea hb
      go_enter Tryd.func51, Tryd.ntmps51
      go_wp2_with fail
      go_ret
      rw [HU2.out, headS_bad (by decide)]
      exact ⟨rfl, _, _, qs, HQ.out, h⟩
  · have HU2 := Lib.hid (show headM ws = (3, 0, 0) from by unfold headM; rw [if_pos (.inl e4)])
    obtain ⟨A, c, rfl, -, -⟩ := (h.pull 4).rd
    generalize headM ws = U at HU2 ⊢
    have d4 : ((ws.length : Int) != 4) = true := by simp; omega
    have d5 : ((ws.length : Int) == 4) = false := by rw [beq_eq_false_iff_ne]; omega
    clear e4
    go_enter Tryd.func51, Tryd.ntmps51
    go_wp2_with fail
    go_ret
    rw [HU2.out, headS_bad (by decide)]
    exact ⟨rfl, _, _, qs, hq, h⟩
end Go.Proofs.YtnmkdhoijdoccaaDoor
