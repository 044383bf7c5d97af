/- Are two rows the same? Told quietly. -/
import Derived.Test.YtjeopmiopinlgaaRw2
import Derived.Test.YtjeopmiopinlgaaProg
import Derived.Test.YtjeopmiopinlgaaOrd
import Derived.Deep.LoopGhost
import Derived.WalkSmall
set_option linter.unusedVariables false
set_option linter.unusedSimpArgs false
namespace Go.Proofs.Ytjeopmiopinlgaa
open Go Go.RowKit SL

theorem Rd.drewQ {α : Type} {d : Cd α} {v : Value} {xs : List α} {w : World} (h : Rd d v xs w) (n : Nat) : Rd d v xs (w.drewN n) := h.mono fun _ _ h => h
set_option maxHeartbeats 1000000 in
theorem same_q (w : World) (v v' : Value) (xs ys : List Int) (hx : Rd (cInt .i64) v xs w) (hy : Rd (cInt .i64) v' ys w) :
    Calls Try.prog 25 #[v, v'] w fun e w' => e = .returned (.bool (decide (xs = ys))) ∧ ∃ m, w' = w.drewN m := by
  have hx' := hx
  have hy' := hy
  obtain ⟨A, c, hv, hm, -⟩ := hx
  subst hv
  obtain ⟨B, d, hv, hm', -⟩ := hy
  subst hv
  unfold maxLen at hm hm'
  by_cases hlen : xs.length = ys.length
  · have hne : ((xs.length : Int) != (ys.length : Int)) = false := by simp [hlen]
    have HLEN := Lib.hid hlen; clear hlen
    go_enter Try.func25, Try.ntmps25
    go_wp2_with fail
    clear hne
    go_loopg [5] xs.length (fun k i wr => ∃ j q : Nat, j ≤ xs.length ∧ k = xs.length - j ∧ i = .int .i64 j ∧ xs.take j = ys.take j ∧ wr = w.drewN q)
    case atStart => exact ⟨0, 0, Nat.zero_le _, rfl, rfl, rfl, rfl⟩
    case round =>
      obtain ⟨j, q, hj, hgk, rfl, hT, rfl⟩ := hrel
      subst hgk
      by_cases hlt : j < xs.length
      · have hlt2 : j < ys.length := by rw [← HLEN.out]; exact hlt
        obtain ⟨A', c', hv, -, hc⟩ := hx'
        obtain ⟨ad, hA', hcell⟩ := rd_at_int hc j hlt
        obtain rfl : A = some ad := by
          have : A' = A := by injection hv with h1; exact h1.symm
          rw [← this]; exact hA'
        obtain ⟨B', d', hv', -, hc'⟩ := hy'
        obtain ⟨bd, hB', hcell'⟩ := rd_at_int hc' j hlt2
        obtain rfl : B = some bd := by
          have : B' = B := by injection hv' with h1; exact h1.symm
          rw [← this]; exact hB'
        have HX := Lib.hid (show xs.take (j + 1) = xs.take j ++ [xs[j]] from List.take_succ_eq_append_getElem hlt)
        have HY := Lib.hid (show ys.take (j + 1) = ys.take j ++ [ys[j]'hlt2] from List.take_succ_eq_append_getElem hlt2)
        have HN := Lib.hid (show xs = ys → xs[j] = ys[j]'hlt2 from fun e => by subst e; rfl)
        have HT := Lib.hid hT
        clear hc hc' hv hv' hA' hB' hT
        generalize hxj : xs[j] = x at *
        generalize hyj : ys[j]'hlt2 = y at *
        clear hxj hyj
        by_cases hxy : x = y
        · have hb : ((x : Int) != (y : Int)) = false := by subst hxy; simp
          have HE := Lib.hid hxy; clear hxy
          go_wp2_with fail
          go_quiet (fail)
          go_wp2_with fail
          go_roundg (xs.length - (j + 1))
          case measure => omega
          case rel => exact ⟨j + 1, _, by omega, rfl, by go_num, by rw [HX.out, HY.out, HT.out, HE.out], rfl⟩
        · have hb : ((x : Int) != (y : Int)) = true := by simp; omega
          have HD := Lib.hid (show decide (xs = ys) = false from decide_eq_false fun e => hxy (HN.out e)); clear hxy
          go_wp2_with fail
          go_quiet (fail)
          go_wp2_with fail
          go_ret
          exact ⟨by rw [HD.out]; rfl, _, World.drewN_drewN _ _ _⟩
      · obtain rfl : j = xs.length := by omega
        rw [List.take_length] at hT
        have HD := Lib.hid (show decide (xs = ys) = true from decide_eq_true (by rw [hT, List.take_of_length_le (by rw [HLEN.out]; exact Nat.le_refl _)]))
        clear hT
        go_wp2_with fail
        go_ret
        exact ⟨by rw [HD.out]; rfl, _, rfl⟩
  · have hne : ((xs.length : Int) != (ys.length : Int)) = true := by simp; omega
    have HD := Lib.hid (show decide (xs = ys) = false from decide_eq_false fun e => hlen (by rw [e])); clear hlen
    go_enter Try.func25, Try.ntmps25
    go_wp2_with fail
    go_ret
    exact ⟨by rw [HD.out]; rfl, 0, rfl⟩
set_option maxHeartbeats 1000000 in
theorem sameInts_q (w : World) (v v' : Value) (xs ys : List Nat) (hx : Rd (cNat .i64) v xs w) (hy : Rd (cNat .i64) v' ys w) :
    Calls Try.prog 16 #[v, v'] w fun e w' => e = .returned (.bool (decide (xs = ys))) ∧ ∃ m, w' = w.drewN m := by
  have hx' := hx
  have hy' := hy
  obtain ⟨A, c, hv, hm, -⟩ := hx
  subst hv
  obtain ⟨B, d, hv, hm', -⟩ := hy
  subst hv
  unfold maxLen at hm hm'
  by_cases hlen : xs.length = ys.length
  · have hne : ((xs.length : Int) != (ys.length : Int)) = false := by simp [hlen]
    have HLEN := Lib.hid hlen; clear hlen
    go_enter Try.func16, Try.ntmps16
    go_wp2_with fail
    clear hne
    go_loopg [5] xs.length (fun k i wr => ∃ j q : Nat, j ≤ xs.length ∧ k = xs.length - j ∧ i = .int .i64 j ∧ xs.take j = ys.take j ∧ wr = w.drewN q)
    case atStart => exact ⟨0, 0, Nat.zero_le _, rfl, rfl, rfl, rfl⟩
    case round =>
      obtain ⟨j, q, hj, hgk, rfl, hT, rfl⟩ := hrel
      subst hgk
      by_cases hlt : j < xs.length
      · have hlt2 : j < ys.length := by rw [← HLEN.out]; exact hlt
        obtain ⟨A', c', hv, -, hc⟩ := hx'
        obtain ⟨ad, hA', hcell⟩ := rd_at hc j hlt
        obtain rfl : A = some ad := by
          have : A' = A := by injection hv with h1; exact h1.symm
          rw [← this]; exact hA'
        obtain ⟨B', d', hv', -, hc'⟩ := hy'
        obtain ⟨bd, hB', hcell'⟩ := rd_at hc' j hlt2
        obtain rfl : B = some bd := by
          have : B' = B := by injection hv' with h1; exact h1.symm
          rw [← this]; exact hB'
        have HX := Lib.hid (show xs.take (j + 1) = xs.take j ++ [xs[j]] from List.take_succ_eq_append_getElem hlt)
        have HY := Lib.hid (show ys.take (j + 1) = ys.take j ++ [ys[j]'hlt2] from List.take_succ_eq_append_getElem hlt2)
        have HN := Lib.hid (show xs = ys → xs[j] = ys[j]'hlt2 from fun e => by subst e; rfl)
        have HT := Lib.hid hT
        clear hc hc' hv hv' hA' hB' hT
        generalize hxj : xs[j] = x at *
        generalize hyj : ys[j]'hlt2 = y at *
        clear hxj hyj
        by_cases hxy : x = y
        · have hb : ((x : Int) != (y : Int)) = false := by subst hxy; simp
          have HE := Lib.hid hxy; clear hxy
          go_wp2_with fail
          go_quiet (fail)
          go_wp2_with fail
          go_roundg (xs.length - (j + 1))
          case measure => omega
          case rel => exact ⟨j + 1, _, by omega, rfl, by go_num, by rw [HX.out, HY.out, HT.out, HE.out], rfl⟩
        · have hb : ((x : Int) != (y : Int)) = true := by simp; omega
          have HD := Lib.hid (show decide (xs = ys) = false from decide_eq_false fun e => hxy (HN.out e)); clear hxy
          go_wp2_with fail
          go_quiet (fail)
          go_wp2_with fail
          go_ret
          exact ⟨by rw [HD.out]; rfl, _, World.drewN_drewN _ _ _⟩
      · obtain rfl : j = xs.length := by omega
        rw [List.take_length] at hT
        have HD := Lib.hid (show decide (xs = ys) = true from decide_eq_true (by rw [hT, List.take_of_length_le (by rw [HLEN.out]; exact Nat.le_refl _)]))
        clear hT
        go_wp2_with fail
        go_ret
        exact ⟨by rw [HD.out]; rfl, _, rfl⟩
  · have hne : ((xs.length : Int) != (ys.length : Int)) = true := by simp; omega
    have HD := Lib.hid (show decide (xs = ys) = false from decide_eq_false fun e => hlen (by rw [e])); clear hlen
    go_enter Try.func16, Try.ntmps16
    go_wp2_with fail
    go_ret
    exact ⟨by rw [HD.out]; rfl, 0, rfl⟩
set_option maxHeartbeats 1000000 in
theorem sameRow_q (w : World) (v v' : Value) (xs ys : List Int) (hx : Rd (cInt .i8) v xs w) (hy : Rd (cInt .i8) v' ys w) :
    Calls Try.prog 31 #[v, v'] w fun e w' => e = .returned (.bool (decide (xs = ys))) ∧ ∃ m, w' = w.drewN m := by
  have hx' := hx
  have hy' := hy
  obtain ⟨A, c, hv, hm, -⟩ := hx
  subst hv
  obtain ⟨B, d, hv, hm', -⟩ := hy
  subst hv
  unfold maxLen at hm hm'
  by_cases hlen : xs.length = ys.length
  · have hne : ((xs.length : Int) != (ys.length : Int)) = false := by simp [hlen]
    have HLEN := Lib.hid hlen; clear hlen
    go_enter Try.func31, Try.ntmps31
    go_wp2_with fail
    clear hne
    go_loopg [5] xs.length (fun k i wr => ∃ j q : Nat, j ≤ xs.length ∧ k = xs.length - j ∧ i = .int .i64 j ∧ xs.take j = ys.take j ∧ wr = w.drewN q)
    case atStart => exact ⟨0, 0, Nat.zero_le _, rfl, rfl, rfl, rfl⟩
    case round =>
      obtain ⟨j, q, hj, hgk, rfl, hT, rfl⟩ := hrel
      subst hgk
      by_cases hlt : j < xs.length
      · have hlt2 : j < ys.length := by rw [← HLEN.out]; exact hlt
        obtain ⟨A', c', hv, -, hc⟩ := hx'
        obtain ⟨ad, hA', hcell⟩ := rd_at_int hc j hlt
        obtain rfl : A = some ad := by
          have : A' = A := by injection hv with h1; exact h1.symm
          rw [← this]; exact hA'
        obtain ⟨B', d', hv', -, hc'⟩ := hy'
        obtain ⟨bd, hB', hcell'⟩ := rd_at_int hc' j hlt2
        obtain rfl : B = some bd := by
          have : B' = B := by injection hv' with h1; exact h1.symm
          rw [← this]; exact hB'
        have HX := Lib.hid (show xs.take (j + 1) = xs.take j ++ [xs[j]] from List.take_succ_eq_append_getElem hlt)
        have HY := Lib.hid (show ys.take (j + 1) = ys.take j ++ [ys[j]'hlt2] from List.take_succ_eq_append_getElem hlt2)
        have HN := Lib.hid (show xs = ys → xs[j] = ys[j]'hlt2 from fun e => by subst e; rfl)
        have HT := Lib.hid hT
        clear hc hc' hv hv' hA' hB' hT
        generalize hxj : xs[j] = x at *
        generalize hyj : ys[j]'hlt2 = y at *
        clear hxj hyj
        by_cases hxy : x = y
        · have hb : ((x : Int) != (y : Int)) = false := by subst hxy; simp
          have HE := Lib.hid hxy; clear hxy
          go_wp2_with fail
          go_quiet (fail)
          go_wp2_with fail
          go_roundg (xs.length - (j + 1))
          case measure => omega
          case rel => exact ⟨j + 1, _, by omega, rfl, by go_num, by rw [HX.out, HY.out, HT.out, HE.out], rfl⟩
        · have hb : ((x : Int) != (y : Int)) = true := by simp; omega
          have HD := Lib.hid (show decide (xs = ys) = false from decide_eq_false fun e => hxy (HN.out e)); clear hxy
          go_wp2_with fail
          go_quiet (fail)
          go_wp2_with fail
          go_ret
          exact ⟨by rw [HD.out]; rfl, _, World.drewN_drewN _ _ _⟩
      · obtain rfl : j = xs.length := by omega
        rw [List.take_length] at hT
        have HD := Lib.hid (show decide (xs = ys) = true from decide_eq_true (by rw [hT, List.take_of_length_le (by rw [HLEN.out]; exact Nat.le_refl _)]))
        clear hT
        go_wp2_with fail
        go_ret
        exact ⟨by rw [HD.out]; rfl, _, rfl⟩
  · have hne : ((xs.length : Int) != (ys.length : Int)) = true := by simp; omega
    have HD := Lib.hid (show decide (xs = ys) = false from decide_eq_false fun e => hlen (by rw [e])); clear hlen
    go_enter Try.func31, Try.ntmps31
    go_wp2_with fail
    go_ret
    exact ⟨by rw [HD.out]; rfl, 0, rfl⟩
end Go.Proofs.Ytjeopmiopinlgaa
