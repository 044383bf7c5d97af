/- Are two clauses the same, two formulas alike? -/
import Derived.Test.YtnmkdhoijdoccaaDoorRw2
import Derived.Test.YtnmkdhoijdoccaaDoorProg
import Derived.Test.YtnmkdhoijdoccaaDoorOrd
import Derived.Deep.LoopGhost
import Derived.WalkSmall
set_option linter.unusedVariables false
set_option linter.unusedSimpArgs false
namespace Go.Proofs.YtnmkdhoijdoccaaDoor
open Go Go.RowKit SL

theorem Rd.drewQ {α : Type} {d : Cd α} {v : Value} {xs : List α} {w : World} (h : Rd d v xs w) (n : Nat) : Rd d v xs (w.drewN n) := h.mono fun _ _ h => h
set_option maxHeartbeats 1000000 in
theorem same_q (w : World) (v v' : Value) (xs ys : List Int) (hx : Rd (cInt .i64) v xs w) (hy : Rd (cInt .i64) v' ys w) :
    Calls Tryd.prog 58 #[v, v'] w fun e w' => e = .returned (.bool (decide (xs = ys))) ∧ ∃ m, w' = w.drewN m := by
  have hx' := hx
  have hy' := hy
  obtain ⟨A, c, hv, hm, -⟩ := hx
  subst hv
  obtain ⟨B, d, hv, hm', -⟩ := hy
  subst hv
  unfold maxLen at hm hm'
  by_cases hlen : xs.length = ys.length
  · have hne : ((xs.length : Int) != (ys.length : Int)) = false := by simp [hlen]
    have HLEN := Lib.hid hlen; clear hlen
    go_enter Tryd.func58, Tryd.ntmps58
    go_wp2_with fail
    clear hne
    go_loopg [5] xs.length (fun k i wr => ∃ j q : Nat, j ≤ xs.length ∧ k = xs.length - j ∧ i = .int .i64 j ∧ xs.take j = ys.take j ∧ wr = w.drewN q)
    case atStart => exact ⟨0, 0, Nat.zero_le _, rfl, rfl, rfl, rfl⟩
    case round =>
      obtain ⟨j, q, hj, hgk, rfl, hT, rfl⟩ := hrel
      subst hgk
      by_cases hlt : j < xs.length
      · have hlt2 : j < ys.length := by rw [← HLEN.out]; exact hlt
        obtain ⟨A', c', hv, -, hc⟩ := hx'
        obtain ⟨ad, hA', hcell⟩ := rd_at_int hc j hlt
        obtain rfl : A = some ad := by
          have : A' = A := by injection hv with h1; exact h1.symm
          rw [← this]; exact hA'
        obtain ⟨B', d', hv', -, hc'⟩ := hy'
        obtain ⟨bd, hB', hcell'⟩ := rd_at_int hc' j hlt2
        obtain rfl : B = some bd := by
          have : B' = B := by injection hv' with h1; exact h1.symm
          rw [← this]; exact hB'
        have HX := Lib.hid (show xs.take (j + 1) = xs.take j ++ [xs[j]] from List.take_succ_eq_append_getElem hlt)
        have HY := Lib.hid (show ys.take (j + 1) = ys.take j ++ [ys[j]'hlt2] from List.take_succ_eq_append_getElem hlt2)
        have HN := Lib.hid (show xs = ys → xs[j] = ys[j]'hlt2 from fun e => by subst e; rfl)
        have HT := Lib.hid hT
        clear hc hc' hv hv' hA' hB' hT
        generalize hxj : xs[j] = x at *
        generalize hyj : ys[j]'hlt2 = y at *
        clear hxj hyj
        by_cases hxy : x = y
        · have hb : ((x : Int) != (y : Int)) = false := by subst hxy; simp
          have HE := Lib.hid hxy; clear hxy
          go_wp2_with fail
          go_quiet (fail)
          go_wp2_with fail
          go_roundg (xs.length - (j + 1))
          case measure => omega
          case rel => exact ⟨j + 1, _, by omega, rfl, by go_num, by rw [HX.out, HY.out, HT.out, HE.out], rfl⟩
        · have hb : ((x : Int) != (y : Int)) = true := by simp; omega
          have HD := Lib.hid (show decide (xs = ys) = false from decide_eq_false fun e => hxy (HN.out e)); clear hxy
          go_wp2_with fail
          go_quiet (fail)
          go_wp2_with fail
          go_ret
          exact ⟨by rw [HD.out]; rfl, _, World.drewN_drewN _ _ _⟩
      · obtain rfl : j = xs.length := by omega
        rw [List.take_length] at hT
        have HD := Lib.hid (show decide (xs = ys) = true from decide_eq_true (by rw [hT, List.take_of_length_le (by rw [HLEN.out]; exact Nat.le_refl _)]))
        clear hT
        go_wp2_with fail
        go_ret
        exact ⟨by rw [HD.out]; rfl, _, rfl⟩
  · have hne : ((xs.length : Int) != (ys.length : Int)) = true := by simp; omega
    have HD := Lib.hid (show decide (xs = ys) = false from decide_eq_false fun e => hlen (by rw [e])); clear hlen
    go_enter Tryd.func58, Tryd.ntmps58
    go_wp2_with fail
    go_ret
    exact ⟨by rw [HD.out]; rfl, 0, rfl⟩
theorem same_walk (w : World) (v v' : Value) (xs ys : List Int) (hx : Rd (cInt .i64) v xs w) (hy : Rd (cInt .i64) v' ys w) :
    Calls Tryd.prog 35 #[v, v'] w fun e w' => e = .returned (.bool (decide (xs = ys))) ∧ ∃ m, w' = w.drewN m := by
  have sq := same_q w v v' xs ys hx hy
  generalize decide (xs = ys) = D at *
  clear hx hy
  go_enter Tryd.func35, Tryd.ntmps35
  go_wp2_with (go_at_call 58; refine sq.mono ?_; rintro e w' ⟨rfl, m, rfl⟩)
  go_ret
  exact ⟨rfl, m, rfl⟩
set_option maxRecDepth 100000 in
set_option maxHeartbeats 4000000 in
theorem alike_walk (w0 w : World) (l : List HP) (h : SL.St w0 l w) (n m : Int) (vf vg : Value) (xs ys : List (List Int)) (hx : Ent l (Rd2 (cInt .i64) vf xs)) (hy : Ent l (Rd2 (cInt .i64) vg ys)) :
    Calls Tryd.prog 14 #[.agg #[.int .i64 n, vf], .agg #[.int .i64 m, vg]] w fun e w' => e = .returned (.bool (decide (n = m ∧ xs = ys))) ∧ ∃ q, w' = ((w.alloc (.cells #[.int .i64 n, vf] 24)).alloc (.cells #[.int .i64 m, vg] 24)).drewN q := by
  obtain ⟨A, c, rfl, hm1, -⟩ := (hx.use h).at
  obtain ⟨B, d, rfl, hm2, -⟩ := (hy.use h).at
  unfold maxLen at hm1 hm2
  have h2 := (h.alloc (.cells #[.int .i64 n, .slice A xs.length c] 24)).alloc (.cells #[.int .i64 m, .slice B ys.length d] 24)
  simp only [World.size_alloc] at h2
  by_cases hnm : n = m
  · have e1 : (n != m) = false := by simp [hnm]
    have HNM := Lib.hid hnm; clear hnm
    by_cases hlen : xs.length = ys.length
    · have hne : ((xs.length : Int) != (ys.length : Int)) = false := by simp [hlen]
      have HLEN := Lib.hid hlen; clear hlen
      go_enter Tryd.func14, Tryd.ntmps14
      go_wp2_with fail
      clear hne e1
      have HW2 := Lib.hid (show (w.alloc (.cells #[.int .i64 n, .slice A xs.length c] 24)).alloc (.cells #[.int .i64 m, .slice B ys.length d] 24) = _ from rfl)
      generalize hw2 : (w.alloc (.cells #[.int .i64 n, .slice A xs.length c] 24)).alloc (.cells #[.int .i64 m, .slice B ys.length d] 24) = w2 at h2 HW2 ⊢
      have HEQ := Lib.hid hw2; clear hw2 HW2
      generalize hp1 : w.heap.size = p1 at h2 ⊢
      clear hp1
      have f1 : w2.cell? ⟨p1, 1, none⟩ = some (.slice A xs.length c) := (h2.pull 1).cell 1
      have f2 : w2.cell? ⟨p1 + 1, 1, none⟩ = some (.slice B ys.length d) := h2.cell 1
      have hx2 := hx.use h2.drop.drop
      have hy2 := hy.use h2.drop.drop
      clear h2 h
      go_loopg [5] xs.length (fun k i wr => ∃ j q : Nat, j ≤ xs.length ∧ k = xs.length - j ∧ i = .int .i64 j ∧ xs.take j = ys.take j ∧ wr = w2.drewN q)
      case atStart => exact ⟨0, 0, Nat.zero_le _, rfl, rfl, rfl, rfl⟩
      case round =>
        obtain ⟨j, q, hj, hgk, rfl, hT, hwr⟩ := hrel
        subst hgk
        have g1 : wr.cell? ⟨p1, 1, none⟩ = some (.slice A xs.length c) := by rw [hwr]; exact f1
        have g2 : wr.cell? ⟨p1 + 1, 1, none⟩ = some (.slice B ys.length d) := by rw [hwr]; exact f2
        by_cases hlt : j < xs.length
        · have hlt2 : j < ys.length := by rw [← HLEN.out]; exact hlt
          obtain ⟨A1, c1, e1, -, hP⟩ := hx2.at
          obtain ⟨ad, B1, n1, cc1, hA1, hc1, hr1⟩ := hP j _ (List.getElem?_eq_getElem hlt)
          obtain rfl : A = some ad := by rw [← hA1]; injection e1
          obtain ⟨A2, c2, e2, -, hE⟩ := hy2.at
          obtain ⟨bd, B2, n2, cc2, hA2, hc2, hr2⟩ := hE j _ (List.getElem?_eq_getElem hlt2)
          obtain rfl : B = some bd := by rw [← hA2]; injection e2
          clear hP hE e1 e2 hA1 hA2
          have hc1' : wr.cell? (ad.add j) = some (.slice B1 n1 cc1) := by rw [hwr]; exact hc1
          have hc2' : wr.cell? (bd.add j) = some (.slice B2 n2 cc2) := by rw [hwr]; exact hc2
          have hr1' := Rd.drewQ hr1 q
          have hr2' := Rd.drewQ hr2 q
          rw [← hwr] at hr1' hr2'
          have sq := fun n => same_walk (wr.drewN n) _ _ _ _ (Rd.drewQ hr1' n) (Rd.drewQ hr2' n)
          clear hr1 hr2 hr1' hr2' hc1 hc2
          have HWR := Lib.hid hwr; clear hwr
          have HX := Lib.hid (show xs.take (j + 1) = xs.take j ++ [xs[j]] from List.take_succ_eq_append_getElem hlt)
          have HY := Lib.hid (show ys.take (j + 1) = ys.take j ++ [ys[j]'hlt2] from List.take_succ_eq_append_getElem hlt2)
          have HN := Lib.hid (show xs = ys → xs[j] = ys[j]'hlt2 from fun e => by subst e; rfl)
          have HT := Lib.hid hT
          clear hT
          generalize hxj : xs[j] = x at *
          generalize hyj : ys[j]'hlt2 = y at *
          clear hxj hyj
          by_cases hxy : x = y
          · have hd : decide (x = y) = true := decide_eq_true hxy
            have HE := Lib.hid hxy; clear hxy
            generalize decide (x = y) = b at *
            subst hd
            go_wp2_with fail
            go_quiet ((go_at_call 35; exact Calls.quiet_of (sq _)))
            go_wp2_with fail
            go_roundg (xs.length - (j + 1))
            case measure => omega
            case rel => exact ⟨j + 1, _, by omega, rfl, by go_num, by rw [HX.out, HY.out, HT.out, HE.out], by rw [HWR.out]; exact World.drewN_drewN _ _ _⟩
          · have HD := Lib.hid (show decide (n = m ∧ xs = ys) = false from decide_eq_false fun e => hxy (HN.out e.2))
            have hd : decide (x = y) = false := decide_eq_false hxy
            clear hxy
            generalize decide (x = y) = b at *
            subst hd
            go_wp2_with fail
            go_quiet ((go_at_call 35; exact Calls.quiet_of (sq _)))
            go_wp2_with fail
            go_ret
            rw [HEQ.out]
            exact ⟨by rw [HD.out]; rfl, _, by rw [HWR.out]; exact World.drewN_drewN _ _ _⟩
        · obtain rfl : j = xs.length := by omega
          rw [List.take_length] at hT
          have HD := Lib.hid (show decide (n = m ∧ xs = ys) = true from decide_eq_true ⟨HNM.out, by rw [hT, List.take_of_length_le (by rw [HLEN.out]; exact Nat.le_refl _)]⟩)
          clear hT
          have HWR := Lib.hid hwr; clear hwr
          go_wp2_with fail
          go_ret
          rw [HEQ.out]
          exact ⟨by rw [HD.out]; rfl, _, HWR.out⟩
    · have hne : ((xs.length : Int) != (ys.length : Int)) = true := by simp; omega
      have HD := Lib.hid (show decide (n = m ∧ xs = ys) = false from decide_eq_false fun e => hlen (by rw [e.2])); clear hlen
      go_enter Tryd.func14, Tryd.ntmps14
      go_wp2_with fail
      go_ret
      exact ⟨by rw [HD.out]; rfl, 0, rfl⟩
  · have e1 : (n != m) = true := by simp; omega
    have HD := Lib.hid (show decide (n = m ∧ xs = ys) = false from decide_eq_false fun e => hnm e.1); clear hnm
    go_enter Tryd.func14, Tryd.ntmps14
    go_wp2_with fail
    go_ret
    exact ⟨by rw [HD.out]; rfl, 0, rfl⟩
end Go.Proofs.YtnmkdhoijdoccaaDoor
