/- Numbers that are read: the program's. -/
import Derived.Test.YtnmkdhoijdoccaaDoorCnTx
import Derived.Test.YtnmkdhoijdoccaaDoorTxSh
import Derived.Lib.OthersKept
set_option linter.unusedVariables false
set_option linter.unusedSimpArgs false
namespace Go.Proofs.YtnmkdhoijdoccaaDoor
open Go Go.RowKit SL

theorem iter_step {w0 w : World} {l : List HP} {it : Nat} {s : ByteArray} {p : Nat} (h : SL.St w0 (Blk it (.stringIter s p) :: l) w) (q : Nat) : SL.St w0 (Blk it (.stringIter s q) :: l) (w.iterAt it s q) :=
  h.setObj (.stringIter s q)

set_option maxRecDepth 100000 in
set_option maxHeartbeats 4000000 in
theorem number_walk (w0 w : World) (l : List HP) (h : SL.St w0 l w) (s : ByteArray) (sg : Bool) :
    Calls Tryd.prog 70 #[.string s, .bool sg] w fun e w' => e = .returned (.tuple #[.int .i64 (numM s sg).1, .bool (numM s sg).2]) ∧ SL.St w0 l w' := by
  cases sg with
  | false =>
    have hN := Lib.hid (show numM s false = natM s.data.toList false from rfl)
    go_enter Tryd.func70, Tryd.ntmps70
    have hS : (s).size = (s).data.toList.length := Lib.size_eq _
    have hT : (s).toList = (s).data.toList := ByteArray.toList_eq _
    by_cases z : s.data.toList = [48]
    · have hz : (s.toList == [48]) = true := by rw [hT, z]; rfl
      have HN2 := Lib.hid (show numM s false = (0, !false) from by rw [hN.out]; unfold natM; rw [if_pos z])
      clear hN hS hT z
      go_wp2_with fail
      go_ret2
      exact ⟨by rw [HN2.out]; rfl, h⟩
    have hz : (s.toList == [48]) = false := by rw [hT]; simpa using z
    by_cases c1 : s.size < 1
    · have d1 : decide ((s.size : Int) < 1) = true := decide_eq_true (by omega)
      have HN2 := Lib.hid (show numM s false = (0, false) from by rw [hN.out]; unfold natM; rw [if_neg z, if_pos (.inl (by omega))])
      clear hN hS hT z
      go_wp2_with fail
      go_ret2
      exact ⟨by rw [HN2.out]; rfl, h⟩
    have d1 : decide ((s.size : Int) < 1) = false := decide_eq_false (by omega)
    by_cases c2 : 9 < s.size
    · have d2 : decide ((9 : Int) < (s.size : Int)) = true := decide_eq_true (by omega)
      have HN2 := Lib.hid (show numM s false = (0, false) from by rw [hN.out]; unfold natM; rw [if_neg z, if_pos (.inr (.inl (by omega)))])
      clear hN hS hT z
      go_wp2_with fail
      go_ret2
      exact ⟨by rw [HN2.out]; rfl, h⟩
    have d2 : decide ((9 : Int) < (s.size : Int)) = false := decide_eq_false (by omega)
    have hp : 0 < s.size := by omega
    have h0 := head_get s hp
    by_cases c3 : (s[0]'hp).toNat = 48
    · have d3 : ((((s[0]'hp).toNat : Nat) : Int) == 48) = true := by rw [c3]; rfl
      have HN2 := Lib.hid (show numM s false = (0, false) from by rw [hN.out]; unfold natM; rw [if_neg z, if_pos (.inr (.inr (by rw [h0]; exact congrArg some (UInt8.toNat_inj.1 c3))))])
      clear hN hS hT z h0
      go_wp2_with fail
      go_ret2
      exact ⟨by rw [HN2.out]; rfl, h⟩
    have d3 : ((((s[0]'hp).toNat : Nat) : Int) == 48) = false := by rw [beq_eq_false_iff_ne]; omega
    have hN2 : numM s false = digR false (digM s.data.toList 0) := by
      rw [hN.out]; unfold natM; rw [if_neg z, if_neg (fun h => by rcases h with h | h | h <;> first | omega | (rw [h0] at h; injection h with h; exact c3 (by rw [h]; rfl)))]
    have HN2 := Lib.hid hN2
    clear hN hN2 hT z h0 c3
    have HS := Lib.hid hS; clear hS
    have hi : SL.St w0 (Blk w.heap.size (.stringIter s 0) :: l) (w.iter s 0) := h.alloc (.stringIter s 0)
    go_wp2_with fail
    clear hz d1 d2 d3
    generalize w.iter s 0 = wi at hi ⊢
    generalize w.heap.size = it at hi ⊢
    go_loopg [7] s.size (fun k n wr => ∃ (j m : Nat), j ≤ s.size ∧ k = s.size - j ∧ n = .int .i64 m ∧ digM s.data.toList 0 = digM (s.data.toList.drop j) m ∧ m < 10 ^ j ∧ SL.St w0 (Blk it (.stringIter s j) :: l) wr)
    case atStart => exact ⟨0, 0, Nat.zero_le _, rfl, rfl, rfl, by decide, hi⟩
    case round =>
      clear hi
      obtain ⟨j, m, hj, hgk, rfl, hD, hm, hsr⟩ := hrel
      subst hgk
      have hit := hsr.blk
      have hm9 : m < 1000000000 := Nat.lt_of_lt_of_le hm (show 10 ^ j ≤ 10 ^ 9 from Nat.pow_le_pow_right (by decide) (by omega))
      have HD := Lib.hid hD; clear hD
      have HM := Lib.hid hm; clear hm
      by_cases hlt : j < s.size
      · have hd := drop_get s j hlt
        have HD2 := Lib.hid (show digM s.data.toList 0 = if 48 ≤ (s[j]'hlt).toNat ∧ (s[j]'hlt).toNat ≤ 57 then digM (s.data.toList.drop (j + 1)) (10 * m + ((s[j]'hlt).toNat - 48)) else none from by rw [HD.out, hd]; rfl)
        clear hd HD
        by_cases g0 : (s[j]'hlt).toNat < 128
        · have hnx : ∀ ty, (Instr.next (.pointer (some ⟨it, 0, none⟩)) true ty).run Tryd.prog wr = _ := fun ty => Lib.run_next_ascii_at wr it s j ty hit hlt g0
          have hs2 := iter_step hsr (j + 1)
          clear hit
          by_cases g1 : 48 ≤ (s[j]'hlt).toNat ∧ (s[j]'hlt).toNat ≤ 57
          · have e1 : decide (((s[j]'hlt).toNat : Int) < 48) = false := decide_eq_false (by omega)
            have e2 : decide ((57 : Int) < ((s[j]'hlt).toNat : Int)) = false := decide_eq_false (by omega)
            have HD3 := Lib.hid (HD2.out.trans (if_pos g1)); clear HD2
            go_wp2_with fail
            go_roundg (s.size - (j + 1))
            case measure => omega
            case rel => exact ⟨j + 1, 10 * m + ((s[j]'hlt).toNat - 48), by omega, rfl, by go_num, HD3.out, by have := HM.out; rw [Nat.pow_succ]; omega, hs2⟩
          · have HN3 := Lib.hid (show numM s false = (0, false) from by rw [HN2.out, HD2.out, if_neg g1]; rfl)
            clear HN2 HD2
            by_cases g2 : (s[j]'hlt).toNat < 48
            · have e1 : decide (((s[j]'hlt).toNat : Int) < 48) = true := decide_eq_true (by omega)
              go_wp2_with fail
              go_ret2
              exact ⟨by rw [HN3.out]; rfl, hs2.drop⟩
            · have e1 : decide (((s[j]'hlt).toNat : Int) < 48) = false := decide_eq_false (by omega)
              have e2 : decide ((57 : Int) < ((s[j]'hlt).toNat : Int)) = true := decide_eq_true (by omega)
              go_wp2_with fail
              go_ret2
              exact ⟨by rw [HN3.out]; rfl, hs2.drop⟩
        · have hr := (dec_high s j hlt (by rw [get_bang s j hlt]; omega)).1
          have hnx : ∀ ty, (Instr.next (.pointer (some ⟨it, 0, none⟩)) true ty).run Tryd.prog wr = _ := fun ty => Lib.run_next_any_at wr it s j ty hit hlt
          have hs2 := iter_step hsr (j + (Utf8.decode s j).2)
          clear hit
          generalize (Utf8.decode s j).1 = r at *
          generalize j + (Utf8.decode s j).2 = p2 at *
          have HN3 := Lib.hid (show numM s false = (0, false) from by rw [HN2.out, HD2.out, if_neg (by omega)]; rfl)
          clear HN2 HD2
          have e1 : decide ((r : Int) < 48) = false := decide_eq_false (by omega)
          have e2 : decide ((57 : Int) < (r : Int)) = true := decide_eq_true (by omega)
          go_wp2_with fail
          go_ret2
          exact ⟨by rw [HN3.out]; rfl, hs2.drop⟩
      · obtain rfl : j = s.size := by omega
        have hnx : ∀ ty, (Instr.next (.pointer (some ⟨it, 0, none⟩)) true ty).run Tryd.prog wr = _ := fun ty => Lib.run_next_end_at wr it s s.size ty hit (by omega)
        have HN3 := Lib.hid (show numM s false = ((m : Int), true) from by rw [HN2.out, HD.out, HS.out, List.drop_length]; rfl)
        clear hit
        go_wp2_with fail
        go_ret2
        exact ⟨by rw [HN3.out]; rfl, hsr.drop⟩
  | true =>
    have CP := strings_CutPrefix s ⟨#[45]⟩ w
    rw [show (⟨#[45]⟩ : ByteArray).data.toList = [45] from rfl] at CP
    cases hpre : Lib.hasPrefix s.data.toList [45] with
    | true =>
      have hN := Lib.hid (show numM s true = natM (mkB (Lib.trimPrefix s.data.toList [45])).data.toList true from by unfold numM; rw [if_pos ⟨rfl, hpre⟩]; rfl)
      rw [hpre] at CP
      change Calls _ _ _ _ fun e w' => e = .returned (.tuple #[.string (mkB (Lib.trimPrefix s.data.toList [45])), .bool true]) ∧ w' = w at CP
      generalize mkB (Lib.trimPrefix s.data.toList [45]) = u at *
      clear hpre
      go_enter Tryd.func70, Tryd.ntmps70
      go_wp2_with fail
      refine CP.mono ?_
      rintro e w2 ⟨rfl, hw⟩
      rw [hw]
      clear hw CP
      have hS : (u).size = (u).data.toList.length := Lib.size_eq _
      have hT : (u).toList = (u).data.toList := ByteArray.toList_eq _
      generalize hU : u = u at *
      by_cases z : u.data.toList = [48]
      · have hz : (u.toList == [48]) = true := by rw [hT, z]; rfl
        have HN2 := Lib.hid (show numM s true = (0, !true) from by rw [hN.out]; unfold natM; rw [if_pos z])
        clear hN hS hT z
        go_wp2_with fail
        go_ret2
        exact ⟨by rw [HN2.out]; rfl, h⟩
      have hz : (u.toList == [48]) = false := by rw [hT]; simpa using z
      by_cases c1 : u.size < 1
      · have d1 : decide ((u.size : Int) < 1) = true := decide_eq_true (by omega)
        have HN2 := Lib.hid (show numM s true = (0, false) from by rw [hN.out]; unfold natM; rw [if_neg z, if_pos (.inl (by omega))])
        clear hN hS hT z
        go_wp2_with fail
        go_ret2
        exact ⟨by rw [HN2.out]; rfl, h⟩
      have d1 : decide ((u.size : Int) < 1) = false := decide_eq_false (by omega)
      by_cases c2 : 9 < u.size
      · have d2 : decide ((9 : Int) < (u.size : Int)) = true := decide_eq_true (by omega)
        have HN2 := Lib.hid (show numM s true = (0, false) from by rw [hN.out]; unfold natM; rw [if_neg z, if_pos (.inr (.inl (by omega)))])
        clear hN hS hT z
        go_wp2_with fail
        go_ret2
        exact ⟨by rw [HN2.out]; rfl, h⟩
      have d2 : decide ((9 : Int) < (u.size : Int)) = false := decide_eq_false (by omega)
      have hp : 0 < u.size := by omega
      have h0 := head_get u hp
      by_cases c3 : (u[0]'hp).toNat = 48
      · have d3 : ((((u[0]'hp).toNat : Nat) : Int) == 48) = true := by rw [c3]; rfl
        have HN2 := Lib.hid (show numM s true = (0, false) from by rw [hN.out]; unfold natM; rw [if_neg z, if_pos (.inr (.inr (by rw [h0]; exact congrArg some (UInt8.toNat_inj.1 c3))))])
        clear hN hS hT z h0
        go_wp2_with fail
        go_ret2
        exact ⟨by rw [HN2.out]; rfl, h⟩
      have d3 : ((((u[0]'hp).toNat : Nat) : Int) == 48) = false := by rw [beq_eq_false_iff_ne]; omega
      have hN2 : numM s true = digR true (digM u.data.toList 0) := by
        rw [hN.out]; unfold natM; rw [if_neg z, if_neg (fun h => by rcases h with h | h | h <;> first | omega | (rw [h0] at h; injection h with h; exact c3 (by rw [h]; rfl)))]
      have HN2 := Lib.hid hN2
      clear hN hN2 hT z h0 c3
      have HS := Lib.hid hS; clear hS
      have hi : SL.St w0 (Blk w.heap.size (.stringIter u 0) :: l) (w.iter u 0) := h.alloc (.stringIter u 0)
      go_wp2_with fail
      clear hz d1 d2 d3
      generalize w.iter u 0 = wi at hi ⊢
      generalize w.heap.size = it at hi ⊢
      go_loopg [7] u.size (fun k n wr => ∃ (j m : Nat), j ≤ u.size ∧ k = u.size - j ∧ n = .int .i64 m ∧ digM u.data.toList 0 = digM (u.data.toList.drop j) m ∧ m < 10 ^ j ∧ SL.St w0 (Blk it (.stringIter u j) :: l) wr)
      case atStart => exact ⟨0, 0, Nat.zero_le _, rfl, rfl, rfl, by decide, hi⟩
      case round =>
        clear hi
        obtain ⟨j, m, hj, hgk, rfl, hD, hm, hsr⟩ := hrel
        subst hgk
        have hit := hsr.blk
        have hm9 : m < 1000000000 := Nat.lt_of_lt_of_le hm (show 10 ^ j ≤ 10 ^ 9 from Nat.pow_le_pow_right (by decide) (by omega))
        have HD := Lib.hid hD; clear hD
        have HM := Lib.hid hm; clear hm
        by_cases hlt : j < u.size
        · have hd := drop_get u j hlt
          have HD2 := Lib.hid (show digM u.data.toList 0 = if 48 ≤ (u[j]'hlt).toNat ∧ (u[j]'hlt).toNat ≤ 57 then digM (u.data.toList.drop (j + 1)) (10 * m + ((u[j]'hlt).toNat - 48)) else none from by rw [HD.out, hd]; rfl)
          clear hd HD
          by_cases g0 : (u[j]'hlt).toNat < 128
          · have hnx : ∀ ty, (Instr.next (.pointer (some ⟨it, 0, none⟩)) true ty).run Tryd.prog wr = _ := fun ty => Lib.run_next_ascii_at wr it u j ty hit hlt g0
            have hs2 := iter_step hsr (j + 1)
            clear hit
            by_cases g1 : 48 ≤ (u[j]'hlt).toNat ∧ (u[j]'hlt).toNat ≤ 57
            · have e1 : decide (((u[j]'hlt).toNat : Int) < 48) = false := decide_eq_false (by omega)
              have e2 : decide ((57 : Int) < ((u[j]'hlt).toNat : Int)) = false := decide_eq_false (by omega)
              have HD3 := Lib.hid (HD2.out.trans (if_pos g1)); clear HD2
              go_wp2_with fail
              go_roundg (u.size - (j + 1))
              case measure => omega
              case rel => exact ⟨j + 1, 10 * m + ((u[j]'hlt).toNat - 48), by omega, rfl, by go_num, HD3.out, by have := HM.out; rw [Nat.pow_succ]; omega, hs2⟩
            · have HN3 := Lib.hid (show numM s true = (0, false) from by rw [HN2.out, HD2.out, if_neg g1]; rfl)
              clear HN2 HD2
              by_cases g2 : (u[j]'hlt).toNat < 48
              · have e1 : decide (((u[j]'hlt).toNat : Int) < 48) = true := decide_eq_true (by omega)
                go_wp2_with fail
                go_ret2
                exact ⟨by rw [HN3.out]; rfl, hs2.drop⟩
              · have e1 : decide (((u[j]'hlt).toNat : Int) < 48) = false := decide_eq_false (by omega)
                have e2 : decide ((57 : Int) < ((u[j]'hlt).toNat : Int)) = true := decide_eq_true (by omega)
                go_wp2_with fail
                go_ret2
                exact ⟨by rw [HN3.out]; rfl, hs2.drop⟩
          · have hr := (dec_high u j hlt (by rw [get_bang u j hlt]; omega)).1
            have hnx : ∀ ty, (Instr.next (.pointer (some ⟨it, 0, none⟩)) true ty).run Tryd.prog wr = _ := fun ty => Lib.run_next_any_at wr it u j ty hit hlt
            have hs2 := iter_step hsr (j + (Utf8.decode u j).2)
            clear hit
            generalize (Utf8.decode u j).1 = r at *
            generalize j + (Utf8.decode u j).2 = p2 at *
            have HN3 := Lib.hid (show numM s true = (0, false) from by rw [HN2.out, HD2.out, if_neg (by omega)]; rfl)
            clear HN2 HD2
            have e1 : decide ((r : Int) < 48) = false := decide_eq_false (by omega)
            have e2 : decide ((57 : Int) < (r : Int)) = true := decide_eq_true (by omega)
            go_wp2_with fail
            go_ret2
            exact ⟨by rw [HN3.out]; rfl, hs2.drop⟩
        · obtain rfl : j = u.size := by omega
          have hnx : ∀ ty, (Instr.next (.pointer (some ⟨it, 0, none⟩)) true ty).run Tryd.prog wr = _ := fun ty => Lib.run_next_end_at wr it u u.size ty hit (by omega)
          have HN3 := Lib.hid (show numM s true = (-(m : Int), true) from by rw [HN2.out, HD.out, HS.out, List.drop_length]; rfl)
          clear hit
          go_wp2_with fail
          go_ret2
          exact ⟨by rw [HN3.out]; rfl, hsr.drop⟩
    | false =>
      have hN := Lib.hid (show numM s true = natM s.data.toList false from by unfold numM; rw [if_neg (by rw [hpre]; simp)])
      have ht : (⟨(Lib.trimPrefix s.data.toList [45]).toArray⟩ : ByteArray) = s := by
        unfold Lib.trimPrefix
        rw [if_neg (by rw [hpre]; decide)]
      rw [hpre, ht] at CP
      clear hpre ht
      go_enter Tryd.func70, Tryd.ntmps70
      go_wp2_with fail
      refine CP.mono ?_
      rintro e w2 ⟨rfl, hw⟩
      rw [hw]
      clear hw CP
      have hS : (s).size = (s).data.toList.length := Lib.size_eq _
      have hT : (s).toList = (s).data.toList := ByteArray.toList_eq _
      by_cases z : s.data.toList = [48]
      · have hz : (s.toList == [48]) = true := by rw [hT, z]; rfl
        have HN2 := Lib.hid (show numM s true = (0, !false) from by rw [hN.out]; unfold natM; rw [if_pos z])
        clear hN hS hT z
        go_wp2_with fail
        go_ret2
        exact ⟨by rw [HN2.out]; rfl, h⟩
      have hz : (s.toList == [48]) = false := by rw [hT]; simpa using z
      by_cases c1 : s.size < 1
      · have d1 : decide ((s.size : Int) < 1) = true := decide_eq_true (by omega)
        have HN2 := Lib.hid (show numM s true = (0, false) from by rw [hN.out]; unfold natM; rw [if_neg z, if_pos (.inl (by omega))])
        clear hN hS hT z
        go_wp2_with fail
        go_ret2
        exact ⟨by rw [HN2.out]; rfl, h⟩
      have d1 : decide ((s.size : Int) < 1) = false := decide_eq_false (by omega)
      by_cases c2 : 9 < s.size
      · have d2 : decide ((9 : Int) < (s.size : Int)) = true := decide_eq_true (by omega)
        have HN2 := Lib.hid (show numM s true = (0, false) from by rw [hN.out]; unfold natM; rw [if_neg z, if_pos (.inr (.inl (by omega)))])
        clear hN hS hT z
        go_wp2_with fail
        go_ret2
        exact ⟨by rw [HN2.out]; rfl, h⟩
      have d2 : decide ((9 : Int) < (s.size : Int)) = false := decide_eq_false (by omega)
      have hp : 0 < s.size := by omega
      have h0 := head_get s hp
      by_cases c3 : (s[0]'hp).toNat = 48
      · have d3 : ((((s[0]'hp).toNat : Nat) : Int) == 48) = true := by rw [c3]; rfl
        have HN2 := Lib.hid (show numM s true = (0, false) from by rw [hN.out]; unfold natM; rw [if_neg z, if_pos (.inr (.inr (by rw [h0]; exact congrArg some (UInt8.toNat_inj.1 c3))))])
        clear hN hS hT z h0
        go_wp2_with fail
        go_ret2
        exact ⟨by rw [HN2.out]; rfl, h⟩
      have d3 : ((((s[0]'hp).toNat : Nat) : Int) == 48) = false := by rw [beq_eq_false_iff_ne]; omega
      have hN2 : numM s true = digR false (digM s.data.toList 0) := by
        rw [hN.out]; unfold natM; rw [if_neg z, if_neg (fun h => by rcases h with h | h | h <;> first | omega | (rw [h0] at h; injection h with h; exact c3 (by rw [h]; rfl)))]
      have HN2 := Lib.hid hN2
      clear hN hN2 hT z h0 c3
      have HS := Lib.hid hS; clear hS
      have hi : SL.St w0 (Blk w.heap.size (.stringIter s 0) :: l) (w.iter s 0) := h.alloc (.stringIter s 0)
      go_wp2_with fail
      clear hz d1 d2 d3
      generalize w.iter s 0 = wi at hi ⊢
      generalize w.heap.size = it at hi ⊢
      go_loopg [7] s.size (fun k n wr => ∃ (j m : Nat), j ≤ s.size ∧ k = s.size - j ∧ n = .int .i64 m ∧ digM s.data.toList 0 = digM (s.data.toList.drop j) m ∧ m < 10 ^ j ∧ SL.St w0 (Blk it (.stringIter s j) :: l) wr)
      case atStart => exact ⟨0, 0, Nat.zero_le _, rfl, rfl, rfl, by decide, hi⟩
      case round =>
        clear hi
        obtain ⟨j, m, hj, hgk, rfl, hD, hm, hsr⟩ := hrel
        subst hgk
        have hit := hsr.blk
        have hm9 : m < 1000000000 := Nat.lt_of_lt_of_le hm (show 10 ^ j ≤ 10 ^ 9 from Nat.pow_le_pow_right (by decide) (by omega))
        have HD := Lib.hid hD; clear hD
        have HM := Lib.hid hm; clear hm
        by_cases hlt : j < s.size
        · have hd := drop_get s j hlt
          have HD2 := Lib.hid (show digM s.data.toList 0 = if 48 ≤ (s[j]'hlt).toNat ∧ (s[j]'hlt).toNat ≤ 57 then digM (s.data.toList.drop (j + 1)) (10 * m + ((s[j]'hlt).toNat - 48)) else none from by rw [HD.out, hd]; rfl)
          clear hd HD
          by_cases g0 : (s[j]'hlt).toNat < 128
          · have hnx : ∀ ty, (Instr.next (.pointer (some ⟨it, 0, none⟩)) true ty).run Tryd.prog wr = _ := fun ty => Lib.run_next_ascii_at wr it s j ty hit hlt g0
            have hs2 := iter_step hsr (j + 1)
            clear hit
            by_cases g1 : 48 ≤ (s[j]'hlt).toNat ∧ (s[j]'hlt).toNat ≤ 57
            · have e1 : decide (((s[j]'hlt).toNat : Int) < 48) = false := decide_eq_false (by omega)
              have e2 : decide ((57 : Int) < ((s[j]'hlt).toNat : Int)) = false := decide_eq_false (by omega)
              have HD3 := Lib.hid (HD2.out.trans (if_pos g1)); clear HD2
              go_wp2_with fail
              go_roundg (s.size - (j + 1))
              case measure => omega
              case rel => exact ⟨j + 1, 10 * m + ((s[j]'hlt).toNat - 48), by omega, rfl, by go_num, HD3.out, by have := HM.out; rw [Nat.pow_succ]; omega, hs2⟩
            · have HN3 := Lib.hid (show numM s true = (0, false) from by rw [HN2.out, HD2.out, if_neg g1]; rfl)
              clear HN2 HD2
              by_cases g2 : (s[j]'hlt).toNat < 48
              · have e1 : decide (((s[j]'hlt).toNat : Int) < 48) = true := decide_eq_true (by omega)
                go_wp2_with fail
                go_ret2
                exact ⟨by rw [HN3.out]; rfl, hs2.drop⟩
              · have e1 : decide (((s[j]'hlt).toNat : Int) < 48) = false := decide_eq_false (by omega)
                have e2 : decide ((57 : Int) < ((s[j]'hlt).toNat : Int)) = true := decide_eq_true (by omega)
                go_wp2_with fail
                go_ret2
                exact ⟨by rw [HN3.out]; rfl, hs2.drop⟩
          · have hr := (dec_high s j hlt (by rw [get_bang s j hlt]; omega)).1
            have hnx : ∀ ty, (Instr.next (.pointer (some ⟨it, 0, none⟩)) true ty).run Tryd.prog wr = _ := fun ty => Lib.run_next_any_at wr it s j ty hit hlt
            have hs2 := iter_step hsr (j + (Utf8.decode s j).2)
            clear hit
            generalize (Utf8.decode s j).1 = r at *
            generalize j + (Utf8.decode s j).2 = p2 at *
            have HN3 := Lib.hid (show numM s true = (0, false) from by rw [HN2.out, HD2.out, if_neg (by omega)]; rfl)
            clear HN2 HD2
            have e1 : decide ((r : Int) < 48) = false := decide_eq_false (by omega)
            have e2 : decide ((57 : Int) < (r : Int)) = true := decide_eq_true (by omega)
            go_wp2_with fail
            go_ret2
            exact ⟨by rw [HN3.out]; rfl, hs2.drop⟩
        · obtain rfl : j = s.size := by omega
          have hnx : ∀ ty, (Instr.next (.pointer (some ⟨it, 0, none⟩)) true ty).run Tryd.prog wr = _ := fun ty => Lib.run_next_end_at wr it s s.size ty hit (by omega)
          have HN3 := Lib.hid (show numM s true = ((m : Int), true) from by rw [HN2.out, HD.out, HS.out, List.drop_length]; rfl)
          clear hit
          go_wp2_with fail
          go_ret2
          exact ⟨by rw [HN3.out]; rfl, hsr.drop⟩
end Go.Proofs.YtnmkdhoijdoccaaDoor
