/- Numbers that are read: the reference's. -/
import Derived.Test.YtnmkdhoijdoccaaCnPw
import Derived.Test.YtnmkdhoijdoccaaSL
import Derived.Lib.Strings
set_option linter.unusedVariables false
set_option linter.unusedSimpArgs false
namespace Go.Proofs.Ytnmkdhoijdoccaa
open Go Go.RowKit SL

theorem get_data (s : ByteArray) (i : Nat) (h : i < s.size) : s.data.toList[i]? = some (s[i]'h) := by
  have h2 : i < s.data.toList.length := by rw [← Lib.size_eq]; exact h
  rw [List.getElem?_eq_getElem h2]
  rfl
theorem head_get (s : ByteArray) (h : 0 < s.size) : s.data.toList.head? = some (s[0]'h) := by
  rw [← get_data s 0 h]
  cases s.data.toList <;> rfl
theorem drop_get (s : ByteArray) (i : Nat) (h : i < s.size) : s.data.toList.drop i = (s[i]'h) :: s.data.toList.drop (i + 1) := by
  have h2 : i < s.data.toList.length := by rw [← Lib.size_eq]; exact h
  rw [List.drop_eq_getElem_cons h2]
  rfl
theorem pre_get (s : ByteArray) (h : 0 < s.size) : Lib.hasPrefix s.data.toList [45] = ((s[0]'h) == 45) := by
  have := drop_get s 0 h
  rw [List.drop_zero] at this
  unfold Lib.hasPrefix
  rw [this]
  simp [List.isPrefixOf, Bool.beq_comm]
theorem pre_none (s : ByteArray) (h : ¬ 0 < s.size) : Lib.hasPrefix s.data.toList [45] = false := by
  have : s.data.toList = [] := List.eq_nil_of_length_eq_zero (by rw [← Lib.size_eq]; omega)
  rw [this]; rfl
theorem trim_get (s : ByteArray) (h : Lib.hasPrefix s.data.toList [45] = true) : Lib.trimPrefix s.data.toList [45] = (s.extract 1 s.size).data.toList := by
  unfold Lib.trimPrefix
  rw [if_pos h, Lib.extract_data]
  rw [List.take_of_length_le (by rw [List.length_drop, ← Lib.size_eq]; exact Nat.le_refl _)]
  rfl

set_option maxRecDepth 100000 in
set_option maxHeartbeats 4000000 in
theorem rnumber_walk (w : World) (s : ByteArray) (sg : Bool) :
    Calls Try.prog 70 #[.string s, .bool sg] w fun e w' => e = .returned (.tuple #[.int .i64 (numM s sg).1, .bool (numM s sg).2]) ∧ w' = w := by
  cases sg with
  | false =>
    have hN := Lib.hid (show numM s false = natM s.data.toList false from rfl)
    go_enter Try.func70, Try.ntmps70
    have hS : (s).size = (s).data.toList.length := Lib.size_eq _
    have hT : (s).toList = (s).data.toList := ByteArray.toList_eq _
    by_cases z : s.data.toList = [48]
    · have hz : (s.toList == [48]) = true := by rw [hT, z]; rfl
      have HN2 := Lib.hid (show numM s false = (0, !false) from by rw [hN.out]; unfold natM; rw [if_pos z])
      clear hN hS hT z
      go_wp2_with fail
      go_ret2
      exact ⟨by rw [HN2.out]; rfl, rfl⟩
    have hz : (s.toList == [48]) = false := by rw [hT]; simpa using z
    by_cases c1 : s.size < 1
    · have d1 : decide ((s.size : Int) < 1) = true := decide_eq_true (by omega)
      have HN2 := Lib.hid (show numM s false = (0, false) from by rw [hN.out]; unfold natM; rw [if_neg z, if_pos (.inl (by omega))])
      clear hN hS hT z
      go_wp2_with fail
      go_ret2
      exact ⟨by rw [HN2.out]; rfl, rfl⟩
    have d1 : decide ((s.size : Int) < 1) = false := decide_eq_false (by omega)
    by_cases c2 : 9 < s.size
    · have d2 : decide ((9 : Int) < (s.size : Int)) = true := decide_eq_true (by omega)
      have HN2 := Lib.hid (show numM s false = (0, false) from by rw [hN.out]; unfold natM; rw [if_neg z, if_pos (.inr (.inl (by omega)))])
      clear hN hS hT z
      go_wp2_with fail
      go_ret2
      exact ⟨by rw [HN2.out]; rfl, rfl⟩
    have d2 : decide ((9 : Int) < (s.size : Int)) = false := decide_eq_false (by omega)
    have hp : 0 < s.size := by omega
    have h0 := head_get s hp
    by_cases c3 : (s[0]'hp).toNat = 48
    · have d3 : ((((s[0]'hp).toNat : Nat) : Int) == 48) = true := by rw [c3]; rfl
      have HN2 := Lib.hid (show numM s false = (0, false) from by rw [hN.out]; unfold natM; rw [if_neg z, if_pos (.inr (.inr (by rw [h0]; exact congrArg some (UInt8.toNat_inj.1 c3))))])
      clear hN hS hT z h0
      go_wp2_with fail
      go_ret2
      exact ⟨by rw [HN2.out]; rfl, rfl⟩
    have d3 : ((((s[0]'hp).toNat : Nat) : Int) == 48) = false := by rw [beq_eq_false_iff_ne]; omega
    have hN2 : numM s false = digR false (digM s.data.toList 0) := by
      rw [hN.out]; unfold natM; rw [if_neg z, if_neg (fun h => by rcases h with h | h | h <;> first | omega | (rw [h0] at h; injection h with h; exact c3 (by rw [h]; rfl)))]
    have HN2 := Lib.hid hN2
    clear hN hN2 hT z h0 c3
    have HS := Lib.hid hS; clear hS
    go_wp2_with fail
    clear hz d1 d2 d3
    go_loopg [7, 8] s.size (fun k n i wr => ∃ (j m : Nat), j ≤ s.size ∧ k = s.size - j ∧ n = .int .i64 m ∧ i = .int .i64 j ∧ digM s.data.toList 0 = digM (s.data.toList.drop j) m ∧ m < 10 ^ j ∧ wr = w)
    case atStart => exact ⟨0, 0, Nat.zero_le _, rfl, rfl, rfl, rfl, by decide, rfl⟩
    case round =>
      obtain ⟨j, m, hj, hgk, rfl, rfl, hD, hm, rfl⟩ := hrel
      subst hgk
      have hm9 : m < 1000000000 := Nat.lt_of_lt_of_le hm (show 10 ^ j ≤ 10 ^ 9 from Nat.pow_le_pow_right (by decide) (by omega))
      have HD := Lib.hid hD; clear hD
      have HM := Lib.hid hm; clear hm
      by_cases hlt : j < s.size
      · have hd := drop_get s j hlt
        have HD2 := Lib.hid (show digM s.data.toList 0 = if 48 ≤ (s[j]'hlt).toNat ∧ (s[j]'hlt).toNat ≤ 57 then digM (s.data.toList.drop (j + 1)) (10 * m + ((s[j]'hlt).toNat - 48)) else none from by rw [HD.out, hd]; rfl)
        clear hd HD
        by_cases g1 : 48 ≤ (s[j]'hlt).toNat ∧ (s[j]'hlt).toNat ≤ 57
        · have e1 : decide (((s[j]'hlt).toNat : Int) < 48) = false := decide_eq_false (by omega)
          have e2 : decide ((57 : Int) < ((s[j]'hlt).toNat : Int)) = false := decide_eq_false (by omega)
          have HD3 := Lib.hid (HD2.out.trans (if_pos g1)); clear HD2
          go_wp2_with fail
          go_roundg (s.size - (j + 1))
          case measure => omega
          case rel => exact ⟨j + 1, 10 * m + ((s[j]'hlt).toNat - 48), by omega, rfl, by go_num, by go_num, HD3.out, by have := HM.out; rw [Nat.pow_succ]; omega, rfl⟩
        · have HN3 := Lib.hid (show numM s false = (0, false) from by rw [HN2.out, HD2.out, if_neg g1]; rfl)
          clear HN2 HD2
          by_cases g2 : (s[j]'hlt).toNat < 48
          · have e1 : decide (((s[j]'hlt).toNat : Int) < 48) = true := decide_eq_true (by omega)
            go_wp2_with fail
            go_ret2
            exact ⟨by rw [HN3.out]; rfl, rfl⟩
          · have e1 : decide (((s[j]'hlt).toNat : Int) < 48) = false := decide_eq_false (by omega)
            have e2 : decide ((57 : Int) < ((s[j]'hlt).toNat : Int)) = true := decide_eq_true (by omega)
            go_wp2_with fail
            go_ret2
            exact ⟨by rw [HN3.out]; rfl, rfl⟩
      · obtain rfl : j = s.size := by omega
        have HN3 := Lib.hid (show numM s false = ((m : Int), true) from by rw [HN2.out, HD.out, HS.out, List.drop_length]; rfl)
        go_wp2_with fail
        go_ret2
        exact ⟨by rw [HN3.out]; rfl, rfl⟩
  | true =>
    by_cases q1 : 0 < s.size
    · by_cases q2 : (s[0]'q1).toNat = 45
      · by_cases q3 : 1 < s.size
        · have hpre : Lib.hasPrefix s.data.toList [45] = true := by rw [pre_get s q1, beq_iff_eq]; exact UInt8.toNat_inj.1 q2
          have hN := Lib.hid (show numM s true = natM (s.extract 1 s.size).data.toList true from by unfold numM; rw [if_pos ⟨rfl, hpre⟩, trim_get s hpre])
          have b1 : decide ((1 : Int) < (s.size : Int)) = true := decide_eq_true (by omega)
          have b2 : ((((s[0]'q1).toNat : Nat) : Int) == 45) = true := by rw [q2]; rfl
          clear hpre
          go_enter Try.func70, Try.ntmps70
          have hS : (s.extract 1 s.size).size = (s.extract 1 s.size).data.toList.length := Lib.size_eq _
          have hT : (s.extract 1 s.size).toList = (s.extract 1 s.size).data.toList := ByteArray.toList_eq _
          generalize hU : s.extract 1 s.size = u at *
          by_cases z : u.data.toList = [48]
          · have hz : (u.toList == [48]) = true := by rw [hT, z]; rfl
            have HN2 := Lib.hid (show numM s true = (0, !true) from by rw [hN.out]; unfold natM; rw [if_pos z])
            clear hN hS hT z
            go_wp2_with fail
            go_ret2
            exact ⟨by rw [HN2.out]; rfl, rfl⟩
          have hz : (u.toList == [48]) = false := by rw [hT]; simpa using z
          by_cases c1 : u.size < 1
          · have d1 : decide ((u.size : Int) < 1) = true := decide_eq_true (by omega)
            have HN2 := Lib.hid (show numM s true = (0, false) from by rw [hN.out]; unfold natM; rw [if_neg z, if_pos (.inl (by omega))])
            clear hN hS hT z
            go_wp2_with fail
            go_ret2
            exact ⟨by rw [HN2.out]; rfl, rfl⟩
          have d1 : decide ((u.size : Int) < 1) = false := decide_eq_false (by omega)
          by_cases c2 : 9 < u.size
          · have d2 : decide ((9 : Int) < (u.size : Int)) = true := decide_eq_true (by omega)
            have HN2 := Lib.hid (show numM s true = (0, false) from by rw [hN.out]; unfold natM; rw [if_neg z, if_pos (.inr (.inl (by omega)))])
            clear hN hS hT z
            go_wp2_with fail
            go_ret2
            exact ⟨by rw [HN2.out]; rfl, rfl⟩
          have d2 : decide ((9 : Int) < (u.size : Int)) = false := decide_eq_false (by omega)
          have hp : 0 < u.size := by omega
          have h0 := head_get u hp
          by_cases c3 : (u[0]'hp).toNat = 48
          · have d3 : ((((u[0]'hp).toNat : Nat) : Int) == 48) = true := by rw [c3]; rfl
            have HN2 := Lib.hid (show numM s true = (0, false) from by rw [hN.out]; unfold natM; rw [if_neg z, if_pos (.inr (.inr (by rw [h0]; exact congrArg some (UInt8.toNat_inj.1 c3))))])
            clear hN hS hT z h0
            go_wp2_with fail
            go_ret2
            exact ⟨by rw [HN2.out]; rfl, rfl⟩
          have d3 : ((((u[0]'hp).toNat : Nat) : Int) == 48) = false := by rw [beq_eq_false_iff_ne]; omega
          have hN2 : numM s true = digR true (digM u.data.toList 0) := by
            rw [hN.out]; unfold natM; rw [if_neg z, if_neg (fun h => by rcases h with h | h | h <;> first | omega | (rw [h0] at h; injection h with h; exact c3 (by rw [h]; rfl)))]
          have HN2 := Lib.hid hN2
          clear hN hN2 hT z h0 c3
          have HS := Lib.hid hS; clear hS
          go_wp2_with fail
          clear hz d1 d2 d3
          go_loopg [7, 8] u.size (fun k n i wr => ∃ (j m : Nat), j ≤ u.size ∧ k = u.size - j ∧ n = .int .i64 m ∧ i = .int .i64 j ∧ digM u.data.toList 0 = digM (u.data.toList.drop j) m ∧ m < 10 ^ j ∧ wr = w)
          case atStart => exact ⟨0, 0, Nat.zero_le _, rfl, rfl, rfl, rfl, by decide, rfl⟩
          case round =>
            obtain ⟨j, m, hj, hgk, rfl, rfl, hD, hm, rfl⟩ := hrel
            subst hgk
            have hm9 : m < 1000000000 := Nat.lt_of_lt_of_le hm (show 10 ^ j ≤ 10 ^ 9 from Nat.pow_le_pow_right (by decide) (by omega))
            have HD := Lib.hid hD; clear hD
            have HM := Lib.hid hm; clear hm
            by_cases hlt : j < u.size
            · have hd := drop_get u j hlt
              have HD2 := Lib.hid (show digM u.data.toList 0 = if 48 ≤ (u[j]'hlt).toNat ∧ (u[j]'hlt).toNat ≤ 57 then digM (u.data.toList.drop (j + 1)) (10 * m + ((u[j]'hlt).toNat - 48)) else none from by rw [HD.out, hd]; rfl)
              clear hd HD
              by_cases g1 : 48 ≤ (u[j]'hlt).toNat ∧ (u[j]'hlt).toNat ≤ 57
              · have e1 : decide (((u[j]'hlt).toNat : Int) < 48) = false := decide_eq_false (by omega)
                have e2 : decide ((57 : Int) < ((u[j]'hlt).toNat : Int)) = false := decide_eq_false (by omega)
                have HD3 := Lib.hid (HD2.out.trans (if_pos g1)); clear HD2
                go_wp2_with fail
                go_roundg (u.size - (j + 1))
                case measure => omega
                case rel => exact ⟨j + 1, 10 * m + ((u[j]'hlt).toNat - 48), by omega, rfl, by go_num, by go_num, HD3.out, by have := HM.out; rw [Nat.pow_succ]; omega, rfl⟩
              · have HN3 := Lib.hid (show numM s true = (0, false) from by rw [HN2.out, HD2.out, if_neg g1]; rfl)
                clear HN2 HD2
                by_cases g2 : (u[j]'hlt).toNat < 48
                · have e1 : decide (((u[j]'hlt).toNat : Int) < 48) = true := decide_eq_true (by omega)
                  go_wp2_with fail
                  go_ret2
                  exact ⟨by rw [HN3.out]; rfl, rfl⟩
                · have e1 : decide (((u[j]'hlt).toNat : Int) < 48) = false := decide_eq_false (by omega)
                  have e2 : decide ((57 : Int) < ((u[j]'hlt).toNat : Int)) = true := decide_eq_true (by omega)
                  go_wp2_with fail
                  go_ret2
                  exact ⟨by rw [HN3.out]; rfl, rfl⟩
            · obtain rfl : j = u.size := by omega
              have HN3 := Lib.hid (show numM s true = (-(m : Int), true) from by rw [HN2.out, HD.out, HS.out, List.drop_length]; rfl)
              go_wp2_with fail
              go_ret2
              exact ⟨by rw [HN3.out]; rfl, rfl⟩
        · have hpre : Lib.hasPrefix s.data.toList [45] = true := by rw [pre_get s q1, beq_iff_eq]; exact UInt8.toNat_inj.1 q2
          have HN2 := Lib.hid (show numM s true = (0, false) from by
            have hd := drop_get s 0 q1
            have hl : s.data.toList.drop 1 = [] := List.drop_eq_nil_of_le (by rw [← Lib.size_eq]; omega)
            unfold numM
            rw [if_pos ⟨rfl, hpre⟩]
            unfold Lib.trimPrefix
            rw [if_pos hpre]
            rw [show List.length [(45 : UInt8)] = 1 from rfl, hl]; rfl)
          have b1 : decide ((1 : Int) < (s.size : Int)) = false := decide_eq_false (by omega)
          have hsz : s.size = 1 := by omega
          have hz : (s.toList == [48]) = false := by
            rw [ByteArray.toList_eq]
            have hd := drop_get s 0 q1
            rw [List.drop_zero] at hd
            rw [hd]
            have : (s[0]'q1) ≠ 48 := fun h => by rw [h] at q2; exact absurd q2 (by decide)
            simp [this]
          have d1 : decide ((s.size : Int) < 1) = false := decide_eq_false (by omega)
          have d2 : decide ((9 : Int) < (s.size : Int)) = false := decide_eq_false (by omega)
          have d3 : ((((s[0]'q1).toNat : Nat) : Int) == 48) = false := by rw [q2]; rfl
          have e1 : decide (((s[0]'q1).toNat : Int) < 48) = true := decide_eq_true (by omega)
          clear hpre
          go_enter Try.func70, Try.ntmps70
          go_wp2_with fail
          have z0 : decide ((0 : Int) < (s.size : Int)) = true := decide_eq_true (by omega)
          go_loopg [7, 8] 1 (fun k n i wr => k = 1 ∧ n = .int .i64 0 ∧ i = .int .i64 0 ∧ wr = w)
          case atStart => exact ⟨rfl, rfl, rfl, rfl⟩
          case round =>
            obtain ⟨rfl, rfl, rfl, rfl⟩ := hrel
            go_wp2_with fail
            go_ret2
            exact ⟨by rw [HN2.out]; rfl, rfl⟩
      · have hN := Lib.hid (show numM s true = natM s.data.toList false from by
          unfold numM; rw [if_neg]; rintro ⟨-, h⟩; rw [pre_get s q1, beq_iff_eq] at h; rw [h] at q2; exact q2 rfl)
        have b2 : ((((s[0]'q1).toNat : Nat) : Int) == 45) = false := by rw [beq_eq_false_iff_ne]; omega
        by_cases q3 : 1 < s.size
        · have b1 : decide ((1 : Int) < (s.size : Int)) = true := decide_eq_true (by omega)
          go_enter Try.func70, Try.ntmps70
          have hS : (s).size = (s).data.toList.length := Lib.size_eq _
          have hT : (s).toList = (s).data.toList := ByteArray.toList_eq _
          by_cases z : s.data.toList = [48]
          · have hz : (s.toList == [48]) = true := by rw [hT, z]; rfl
            have HN2 := Lib.hid (show numM s true = (0, !false) from by rw [hN.out]; unfold natM; rw [if_pos z])
            clear hN hS hT z
            go_wp2_with fail
            go_ret2
            exact ⟨by rw [HN2.out]; rfl, rfl⟩
          have hz : (s.toList == [48]) = false := by rw [hT]; simpa using z
          by_cases c1 : s.size < 1
          · have d1 : decide ((s.size : Int) < 1) = true := decide_eq_true (by omega)
            have HN2 := Lib.hid (show numM s true = (0, false) from by rw [hN.out]; unfold natM; rw [if_neg z, if_pos (.inl (by omega))])
            clear hN hS hT z
            go_wp2_with fail
            go_ret2
            exact ⟨by rw [HN2.out]; rfl, rfl⟩
          have d1 : decide ((s.size : Int) < 1) = false := decide_eq_false (by omega)
          by_cases c2 : 9 < s.size
          · have d2 : decide ((9 : Int) < (s.size : Int)) = true := decide_eq_true (by omega)
            have HN2 := Lib.hid (show numM s true = (0, false) from by rw [hN.out]; unfold natM; rw [if_neg z, if_pos (.inr (.inl (by omega)))])
            clear hN hS hT z
            go_wp2_with fail
            go_ret2
            exact ⟨by rw [HN2.out]; rfl, rfl⟩
          have d2 : decide ((9 : Int) < (s.size : Int)) = false := decide_eq_false (by omega)
          have hp : 0 < s.size := by omega
          have h0 := head_get s hp
          by_cases c3 : (s[0]'hp).toNat = 48
          · have d3 : ((((s[0]'hp).toNat : Nat) : Int) == 48) = true := by rw [c3]; rfl
            have HN2 := Lib.hid (show numM s true = (0, false) from by rw [hN.out]; unfold natM; rw [if_neg z, if_pos (.inr (.inr (by rw [h0]; exact congrArg some (UInt8.toNat_inj.1 c3))))])
            clear hN hS hT z h0
            go_wp2_with fail
            go_ret2
            exact ⟨by rw [HN2.out]; rfl, rfl⟩
          have d3 : ((((s[0]'hp).toNat : Nat) : Int) == 48) = false := by rw [beq_eq_false_iff_ne]; omega
          have hN2 : numM s true = digR false (digM s.data.toList 0) := by
            rw [hN.out]; unfold natM; rw [if_neg z, if_neg (fun h => by rcases h with h | h | h <;> first | omega | (rw [h0] at h; injection h with h; exact c3 (by rw [h]; rfl)))]
          have HN2 := Lib.hid hN2
          clear hN hN2 hT z h0 c3
          have HS := Lib.hid hS; clear hS
          go_wp2_with fail
          clear hz d1 d2 d3
          go_loopg [7, 8] s.size (fun k n i wr => ∃ (j m : Nat), j ≤ s.size ∧ k = s.size - j ∧ n = .int .i64 m ∧ i = .int .i64 j ∧ digM s.data.toList 0 = digM (s.data.toList.drop j) m ∧ m < 10 ^ j ∧ wr = w)
          case atStart => exact ⟨0, 0, Nat.zero_le _, rfl, rfl, rfl, rfl, by decide, rfl⟩
          case round =>
            obtain ⟨j, m, hj, hgk, rfl, rfl, hD, hm, rfl⟩ := hrel
            subst hgk
            have hm9 : m < 1000000000 := Nat.lt_of_lt_of_le hm (show 10 ^ j ≤ 10 ^ 9 from Nat.pow_le_pow_right (by decide) (by omega))
            have HD := Lib.hid hD; clear hD
            have HM := Lib.hid hm; clear hm
            by_cases hlt : j < s.size
            · have hd := drop_get s j hlt
              have HD2 := Lib.hid (show digM s.data.toList 0 = if 48 ≤ (s[j]'hlt).toNat ∧ (s[j]'hlt).toNat ≤ 57 then digM (s.data.toList.drop (j + 1)) (10 * m + ((s[j]'hlt).toNat - 48)) else none from by rw [HD.out, hd]; rfl)
              clear hd HD
              by_cases g1 : 48 ≤ (s[j]'hlt).toNat ∧ (s[j]'hlt).toNat ≤ 57
              · have e1 : decide (((s[j]'hlt).toNat : Int) < 48) = false := decide_eq_false (by omega)
                have e2 : decide ((57 : Int) < ((s[j]'hlt).toNat : Int)) = false := decide_eq_false (by omega)
                have HD3 := Lib.hid (HD2.out.trans (if_pos g1)); clear HD2
                go_wp2_with fail
                go_roundg (s.size - (j + 1))
                case measure => omega
                case rel => exact ⟨j + 1, 10 * m + ((s[j]'hlt).toNat - 48), by omega, rfl, by go_num, by go_num, HD3.out, by have := HM.out; rw [Nat.pow_succ]; omega, rfl⟩
              · have HN3 := Lib.hid (show numM s true = (0, false) from by rw [HN2.out, HD2.out, if_neg g1]; rfl)
                clear HN2 HD2
                by_cases g2 : (s[j]'hlt).toNat < 48
                · have e1 : decide (((s[j]'hlt).toNat : Int) < 48) = true := decide_eq_true (by omega)
                  go_wp2_with fail
                  go_ret2
                  exact ⟨by rw [HN3.out]; rfl, rfl⟩
                · have e1 : decide (((s[j]'hlt).toNat : Int) < 48) = false := decide_eq_false (by omega)
                  have e2 : decide ((57 : Int) < ((s[j]'hlt).toNat : Int)) = true := decide_eq_true (by omega)
                  go_wp2_with fail
                  go_ret2
                  exact ⟨by rw [HN3.out]; rfl, rfl⟩
            · obtain rfl : j = s.size := by omega
              have HN3 := Lib.hid (show numM s true = ((m : Int), true) from by rw [HN2.out, HD.out, HS.out, List.drop_length]; rfl)
              go_wp2_with fail
              go_ret2
              exact ⟨by rw [HN3.out]; rfl, rfl⟩
        · have b1 : decide ((1 : Int) < (s.size : Int)) = false := decide_eq_false (by omega)
          go_enter Try.func70, Try.ntmps70
          have hS : (s).size = (s).data.toList.length := Lib.size_eq _
          have hT : (s).toList = (s).data.toList := ByteArray.toList_eq _
          by_cases z : s.data.toList = [48]
          · have hz : (s.toList == [48]) = true := by rw [hT, z]; rfl
            have HN2 := Lib.hid (show numM s true = (0, !false) from by rw [hN.out]; unfold natM; rw [if_pos z])
            clear hN hS hT z
            go_wp2_with fail
            go_ret2
            exact ⟨by rw [HN2.out]; rfl, rfl⟩
          have hz : (s.toList == [48]) = false := by rw [hT]; simpa using z
          by_cases c1 : s.size < 1
          · have d1 : decide ((s.size : Int) < 1) = true := decide_eq_true (by omega)
            have HN2 := Lib.hid (show numM s true = (0, false) from by rw [hN.out]; unfold natM; rw [if_neg z, if_pos (.inl (by omega))])
            clear hN hS hT z
            go_wp2_with fail
            go_ret2
            exact ⟨by rw [HN2.out]; rfl, rfl⟩
          have d1 : decide ((s.size : Int) < 1) = false := decide_eq_false (by omega)
          by_cases c2 : 9 < s.size
          · have d2 : decide ((9 : Int) < (s.size : Int)) = true := decide_eq_true (by omega)
            have HN2 := Lib.hid (show numM s true = (0, false) from by rw [hN.out]; unfold natM; rw [if_neg z, if_pos (.inr (.inl (by omega)))])
            clear hN hS hT z
            go_wp2_with fail
            go_ret2
            exact ⟨by rw [HN2.out]; rfl, rfl⟩
          have d2 : decide ((9 : Int) < (s.size : Int)) = false := decide_eq_false (by omega)
          have hp : 0 < s.size := by omega
          have h0 := head_get s hp
          by_cases c3 : (s[0]'hp).toNat = 48
          · have d3 : ((((s[0]'hp).toNat : Nat) : Int) == 48) = true := by rw [c3]; rfl
            have HN2 := Lib.hid (show numM s true = (0, false) from by rw [hN.out]; unfold natM; rw [if_neg z, if_pos (.inr (.inr (by rw [h0]; exact congrArg some (UInt8.toNat_inj.1 c3))))])
            clear hN hS hT z h0
            go_wp2_with fail
            go_ret2
            exact ⟨by rw [HN2.out]; rfl, rfl⟩
          have d3 : ((((s[0]'hp).toNat : Nat) : Int) == 48) = false := by rw [beq_eq_false_iff_ne]; omega
          have hN2 : numM s true = digR false (digM s.data.toList 0) := by
            rw [hN.out]; unfold natM; rw [if_neg z, if_neg (fun h => by rcases h with h | h | h <;> first | omega | (rw [h0] at h; injection h with h; exact c3 (by rw [h]; rfl)))]
          have HN2 := Lib.hid hN2
          clear hN hN2 hT z h0 c3
          have HS := Lib.hid hS; clear hS
          go_wp2_with fail
          clear hz d1 d2 d3
          go_loopg [7, 8] s.size (fun k n i wr => ∃ (j m : Nat), j ≤ s.size ∧ k = s.size - j ∧ n = .int .i64 m ∧ i = .int .i64 j ∧ digM s.data.toList 0 = digM (s.data.toList.drop j) m ∧ m < 10 ^ j ∧ wr = w)
          case atStart => exact ⟨0, 0, Nat.zero_le _, rfl, rfl, rfl, rfl, by decide, rfl⟩
          case round =>
            obtain ⟨j, m, hj, hgk, rfl, rfl, hD, hm, rfl⟩ := hrel
            subst hgk
            have hm9 : m < 1000000000 := Nat.lt_of_lt_of_le hm (show 10 ^ j ≤ 10 ^ 9 from Nat.pow_le_pow_right (by decide) (by omega))
            have HD := Lib.hid hD; clear hD
            have HM := Lib.hid hm; clear hm
            by_cases hlt : j < s.size
            · have hd := drop_get s j hlt
              have HD2 := Lib.hid (show digM s.data.toList 0 = if 48 ≤ (s[j]'hlt).toNat ∧ (s[j]'hlt).toNat ≤ 57 then digM (s.data.toList.drop (j + 1)) (10 * m + ((s[j]'hlt).toNat - 48)) else none from by rw [HD.out, hd]; rfl)
              clear hd HD
              by_cases g1 : 48 ≤ (s[j]'hlt).toNat ∧ (s[j]'hlt).toNat ≤ 57
              · have e1 : decide (((s[j]'hlt).toNat : Int) < 48) = false := decide_eq_false (by omega)
                have e2 : decide ((57 : Int) < ((s[j]'hlt).toNat : Int)) = false := decide_eq_false (by omega)
                have HD3 := Lib.hid (HD2.out.trans (if_pos g1)); clear HD2
                go_wp2_with fail
                go_roundg (s.size - (j + 1))
                case measure => omega
                case rel => exact ⟨j + 1, 10 * m + ((s[j]'hlt).toNat - 48), by omega, rfl, by go_num, by go_num, HD3.out, by have := HM.out; rw [Nat.pow_succ]; omega, rfl⟩
              · have HN3 := Lib.hid (show numM s true = (0, false) from by rw [HN2.out, HD2.out, if_neg g1]; rfl)
                clear HN2 HD2
                by_cases g2 : (s[j]'hlt).toNat < 48
                · have e1 : decide (((s[j]'hlt).toNat : Int) < 48) = true := decide_eq_true (by omega)
                  go_wp2_with fail
                  go_ret2
                  exact ⟨by rw [HN3.out]; rfl, rfl⟩
                · have e1 : decide (((s[j]'hlt).toNat : Int) < 48) = false := decide_eq_false (by omega)
                  have e2 : decide ((57 : Int) < ((s[j]'hlt).toNat : Int)) = true := decide_eq_true (by omega)
                  go_wp2_with fail
                  go_ret2
                  exact ⟨by rw [HN3.out]; rfl, rfl⟩
            · obtain rfl : j = s.size := by omega
              have HN3 := Lib.hid (show numM s true = ((m : Int), true) from by rw [HN2.out, HD.out, HS.out, List.drop_length]; rfl)
              go_wp2_with fail
              go_ret2
              exact ⟨by rw [HN3.out]; rfl, rfl⟩
    · have hN := Lib.hid (show numM s true = natM s.data.toList false from by
        unfold numM; rw [if_neg]; rintro ⟨-, h⟩; rw [pre_none s q1] at h; cases h)
      have b1 : decide ((1 : Int) < (s.size : Int)) = false := decide_eq_false (by omega)
      go_enter Try.func70, Try.ntmps70
      have hS : (s).size = (s).data.toList.length := Lib.size_eq _
      have hT : (s).toList = (s).data.toList := ByteArray.toList_eq _
      by_cases z : s.data.toList = [48]
      · have hz : (s.toList == [48]) = true := by rw [hT, z]; rfl
        have HN2 := Lib.hid (show numM s true = (0, !false) from by rw [hN.out]; unfold natM; rw [if_pos z])
        clear hN hS hT z
        go_wp2_with fail
        go_ret2
        exact ⟨by rw [HN2.out]; rfl, rfl⟩
      have hz : (s.toList == [48]) = false := by rw [hT]; simpa using z
      by_cases c1 : s.size < 1
      · have d1 : decide ((s.size : Int) < 1) = true := decide_eq_true (by omega)
        have HN2 := Lib.hid (show numM s true = (0, false) from by rw [hN.out]; unfold natM; rw [if_neg z, if_pos (.inl (by omega))])
        clear hN hS hT z
        go_wp2_with fail
        go_ret2
        exact ⟨by rw [HN2.out]; rfl, rfl⟩
      exact absurd (by omega : s.size < 1) c1
end Go.Proofs.Ytnmkdhoijdoccaa
