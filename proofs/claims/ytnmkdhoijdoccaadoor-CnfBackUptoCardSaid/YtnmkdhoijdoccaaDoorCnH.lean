/- Does a clause have a literal? The reference's Has, ahead; slices.Contains. -/
import Derived.Test.YtnmkdhoijdoccaaDoorCnA
import Derived.Test.YtnmkdhoijdoccaaDoorCnI
set_option linter.unusedVariables false
set_option linter.unusedSimpArgs false
namespace Go.Proofs.YtnmkdhoijdoccaaDoor
open Go Go.RowKit SL

theorem has_walk (w : World) (v : Value) (c : List Int) (hr : Rd (cInt .i64) v c w) (x : Int) :
    Calls Tryd.prog 24 #[v, .int .i64 x] w fun e w' => e = .returned (.bool (c.contains x)) ∧ w' = w := by
  obtain ⟨A, cc, rfl, hm, hc⟩ := hr
  unfold maxLen at hm
  generalize hD : c.contains x = D
  have HD := Lib.hid hD; clear hD
  go_enter Tryd.func24, Tryd.ntmps24
  go_wp2_with fail
  go_loop [5] (fun i => ∃ k : Nat, k ≤ c.length ∧ i = .int .i64 k ∧ (c.take k).contains x = false) (fun i => c.length - (intOf i).toNat)
  case atStart => exact ⟨0, Nat.zero_le _, rfl, rfl⟩
  case round =>
    obtain ⟨k, hk, rfl, hno⟩ := hrel
    have HNO := Lib.hid hno; clear hno
    by_cases hlt : k < c.length
    · obtain ⟨ad, rfl, hcell⟩ := rd_at_int hc k hlt
      have HT := Lib.hid (show c.take (k + 1) = c.take k ++ [c[k]] by rw [List.take_succ_eq_append_getElem hlt])
      have hmem : c[k] ∈ c := List.getElem_mem hlt
      clear hc
      generalize c[k] = y at *
      by_cases hx : y = x
      · have d : (y == x) = true := by simp [hx]
        have HDT := Lib.hid (show D = true by rw [← HD.out, List.contains_iff_mem, ← hx]; exact hmem)
        clear hx
        go_wp2_with fail
        go_ret
        exact ⟨by rw [HDT.out]; rfl, rfl⟩
      · have d : (y == x) = false := by simp [hx]
        have HX := Lib.hid hx; clear hx
        go_wp2_with fail
        go_round
        case rel => exact ⟨k + 1, by omega, by go_num, by
          cases h : (c.take (k + 1)).contains x with
          | false => rfl
          | true =>
            rw [List.contains_iff_mem, HT.out, List.mem_append] at h
            rcases h with h | h
            · have := HNO.out; rw [List.contains_iff_mem.2 h] at this; cases this
            · simp at h; exact absurd h.symm HX.out⟩
        case measure => simp [intOf]; omega
    · obtain rfl : k = c.length := by omega
      have HDF := Lib.hid (show D = false by rw [← HD.out]; have := HNO.out; rwa [List.take_length] at this)
      clear hc
      go_wp2_with fail
      go_ret
      exact ⟨by rw [HDF.out]; rfl, rfl⟩

theorem index_walk (w : World) (v : Value) (c : List Int) (hr : Rd (cInt .i64) v c w) (x : Int) :
    Calls Tryd.prog 61 #[v, .int .i64 x] w fun e w' => (∃ k : Int, e = .returned (.int .i64 k) ∧ decide (0 ≤ k) = c.contains x ∧ -1 ≤ k ∧ k ≤ 9223372036854775807) ∧ w' = w := by
  obtain ⟨A, cc, rfl, hm, hc⟩ := hr
  unfold maxLen at hm
  generalize hD : c.contains x = D
  have HD := Lib.hid hD; clear hD
  go_enter Tryd.func61, Tryd.ntmps61
  go_wp2_with fail
  go_loop [8] (fun i => ∃ k : Nat, k ≤ c.length ∧ i = .int .i64 k ∧ (c.take k).contains x = false) (fun i => c.length - (intOf i).toNat)
  case atStart => exact ⟨0, Nat.zero_le _, rfl, rfl⟩
  case round =>
    obtain ⟨k, hk, rfl, hno⟩ := hrel
    have HNO := Lib.hid hno; clear hno
    by_cases hlt : k < c.length
    · obtain ⟨ad, rfl, hcell⟩ := rd_at_int hc k hlt
      have HT := Lib.hid (show c.take (k + 1) = c.take k ++ [c[k]] by rw [List.take_succ_eq_append_getElem hlt])
      have hmem : c[k] ∈ c := List.getElem_mem hlt
      clear hc
      generalize c[k] = y at *
      by_cases hx : x = y
      · have d : (x == y) = true := by simp [hx]
        have HDT := Lib.hid (show D = true by rw [← HD.out, List.contains_iff_mem, hx]; exact hmem)
        clear hx
        go_wp2_with fail
        go_ret
        exact ⟨⟨_, rfl, by rw [HDT.out]; simp, by omega, by omega⟩, rfl⟩
      · have d : (x == y) = false := by simp [hx]
        have HX := Lib.hid hx; clear hx
        go_wp2_with fail
        go_round
        case rel => exact ⟨k + 1, by omega, by go_num, by
          cases h : (c.take (k + 1)).contains x with
          | false => rfl
          | true =>
            rw [List.contains_iff_mem, HT.out, List.mem_append] at h
            rcases h with h | h
            · have := HNO.out; rw [List.contains_iff_mem.2 h] at this; cases this
            · simp at h; exact absurd h HX.out⟩
        case measure => simp [intOf]; omega
    · obtain rfl : k = c.length := by omega
      have HDF := Lib.hid (show D = false by rw [← HD.out]; have := HNO.out; rwa [List.take_length] at this)
      clear hc
      go_wp2_with fail
      go_ret
      exact ⟨⟨-1, rfl, by rw [HDF.out]; rfl, by omega, by omega⟩, rfl⟩
theorem contains_walk (w : World) (v : Value) (c : List Int) (hr : Rd (cInt .i64) v c w) (x : Int) :
    Calls Tryd.prog 38 #[v, .int .i64 x] w fun e w' => e = .returned (.bool (c.contains x)) ∧ w' = w := by
  have IW := index_walk w v c hr x
  clear hr
  generalize c.contains x = D at *
  go_enter Tryd.func38, Tryd.ntmps38
  go_wp2_with (go_at_call 61; refine IW.mono ?_; rintro e w' ⟨⟨k, rfl, hk, q1, q2⟩, rfl⟩)
  go_ret
  exact ⟨by simp [hk], rfl⟩

theorem ahead_walk (w : World) (x y : Int) (hx : -1048576 ≤ x ∧ x ≤ 1048576) (hy : -1048576 ≤ y ∧ y ≤ 1048576) :
    Calls Tryd.prog 71 #[.int .i64 x, .int .i64 y] w fun e w' => e = .returned (.bool (aheadM x y)) ∧ w' = w := by
  have hC : aheadM x y = if varM x = varM y then decide (y < x) else decide (varM x < varM y) := rfl
  generalize aheadM x y = C at *
  obtain ⟨x1, x2⟩ := hx
  obtain ⟨y1, y2⟩ := hy
  have S := fun z h1 h2 => rvar_walk w z h1 h2
  obtain ⟨vx1, vx2⟩ : 0 ≤ varM x ∧ varM x ≤ 1048576 := by unfold varM; split <;> omega
  obtain ⟨vy1, vy2⟩ : 0 ≤ varM y ∧ varM y ≤ 1048576 := by unfold varM; split <;> omega
  by_cases e : varM x = varM y
  · rw [if_pos e] at hC
    have d : (varM x != varM y) = false := by simp [e]
    have HC := Lib.hid hC; clear hC e
    go_enter Tryd.func71, Tryd.ntmps71
    go_wp2_with (go_at_call 55; refine (S _ (by omega) (by omega)).mono ?_; rintro e w' ⟨rfl, rfl⟩)
    go_ret
    exact ⟨by rw [HC.out]; rfl, rfl⟩
  · rw [if_neg e] at hC
    have d : (varM x != varM y) = true := by simp [e]
    have HC := Lib.hid hC; clear hC e
    go_enter Tryd.func71, Tryd.ntmps71
    go_wp2_with (go_at_call 55; refine (S _ (by omega) (by omega)).mono ?_; rintro e w' ⟨rfl, rfl⟩)
    go_ret
    exact ⟨by rw [HC.out]; rfl, rfl⟩
end Go.Proofs.YtnmkdhoijdoccaaDoor
