/- Decimal: a number as a text. -/
import Derived.Test.YtnmkdhoijdoccaaDoorCnKy
set_option linter.unusedVariables false
set_option linter.unusedSimpArgs false
namespace Go.Proofs.YtnmkdhoijdoccaaDoor
open Go Go.RowKit SL

theorem itoa_pos {u : Nat} (h : u < 10) : Lib.itoa (u : Int) = [UInt8.ofNat (48 + u)] := by
  unfold Lib.itoa
  rw [if_neg (by omega), Int.toNat_natCast, Lib.decDigits, dif_pos h]
theorem itoa_neg {u : Nat} (h : u < 10) (h0 : 0 < u) : Lib.itoa (-(u : Int)) = [45, UInt8.ofNat (48 + u)] := by
  unfold Lib.itoa
  rw [if_pos (by omega), show (-(u : Int)).natAbs = u by omega, Lib.decDigits, dif_pos h]
theorem itoa_pos2 {u : Nat} (h : 10 ≤ u) : Lib.itoa (u : Int) = Lib.itoa ((u / 10 : Nat) : Int) ++ [UInt8.ofNat (48 + u % 10)] := by
  unfold Lib.itoa
  rw [if_neg (by omega), if_neg (by omega), Int.toNat_natCast, Int.toNat_natCast, Lib.decDigits, dif_neg (by omega)]
theorem itoa_neg2 {u : Nat} (h : 10 ≤ u) : Lib.itoa (-(u : Int)) = Lib.itoa (-((u / 10 : Nat) : Int)) ++ [UInt8.ofNat (48 + u % 10)] := by
  unfold Lib.itoa
  rw [if_pos (by omega), if_pos (by omega), show (-(u : Int)).natAbs = u by omega, show (-((u / 10 : Nat) : Int)).natAbs = u / 10 by omega, Lib.decDigits, dif_neg (by omega)]
  rfl

theorem app_text (a b : List UInt8) : (⟨a.toArray⟩ : ByteArray) ++ ⟨b.toArray⟩ = ⟨(a ++ b).toArray⟩ := by
  apply ByteArray.ext
  simp
theorem app_digit (K : List UInt8) (r : Nat) : (⟨K.toArray⟩ : ByteArray) ++ ⟨#[48 + UInt8.ofNat r]⟩ = ⟨(K ++ [UInt8.ofNat (48 + r)]).toArray⟩ := by
  rw [← app_text]
  congr 3
  simp
theorem conv1 (W : World) (u : Nat) (hu : u < 10) : (convert 76 9 (.slice (some ⟨W.heap.size, 0, none⟩) 1 1)).run Tryd.prog (W.alloc (.cells #[.int .u8 (48 + (u : Int))] 5)) = .ok (.string ⟨#[UInt8.ofNat (48 + u)]⟩) (W.alloc (.cells #[.int .u8 (48 + (u : Int))] 5)) := by
  have h := run_convert_bytes_back (P := Tryd.prog) (W.alloc (.cells #[.int .u8 (48 + (u : Int))] 5)) 76 9 5 ⟨W.heap.size, 0, none⟩ 1 [UInt8.ofNat (48 + u)] Tryd.underlying76 Tryd.underlying5 Tryd.underlying9 (fun t ht => by
    obtain rfl : t = 0 := by simp at ht; omega
    have : (UInt8.ofNat (48 + u)).toNat = 48 + u := by rw [UInt8.toNat_ofNat']; omega
    simp [Addr.add]; omega)
  exact h

set_option maxRecDepth 100000 in
set_option maxHeartbeats 2000000 in
theorem decimal_small (W : World) (u : Nat) (hu : u < 10) :
    Calls Tryd.prog 44 #[.int .i64 u] W fun e w' => e = .returned (.string ⟨(Lib.itoa u).toArray⟩) ∧ SL.St W [Old W] w' := by
  have HI := Lib.hid (itoa_pos hu)
  have h1 : Int.tmod (u : Int) 10 = (u : Int) := by rw [Int.tmod_eq_emod_of_nonneg (by omega)]; omega
  have h2 : Int.tdiv (u : Int) 10 = 0 := by rw [Int.tdiv_eq_ediv_of_nonneg (by omega)]; omega
  have hcv := conv1 W u hu
  go_enter Tryd.func44, Tryd.ntmps44
  go_wp2_with fail
  go_ret
  exact ⟨by rw [HI.out]; exact congrArg (fun s => Ending.returned (.string s)) (app_digit [] u), (SL.St.start W).alloc _ |>.drop⟩

set_option maxRecDepth 100000 in
set_option maxHeartbeats 2000000 in
theorem decimal_neg (W : World) (u : Nat) (hu : u < 10) (h0 : 0 < u) :
    Calls Tryd.prog 44 #[.int .i64 (-(u : Int))] W fun e w' => e = .returned (.string ⟨(Lib.itoa (-(u : Int))).toArray⟩) ∧ SL.St W [Old W] w' := by
  have HI := Lib.hid (itoa_neg hu h0)
  have h1 : Int.tmod (-(u : Int)) 10 = -(u : Int) := by rw [Int.neg_tmod, Int.tmod_eq_emod_of_nonneg (by omega)]; omega
  have h2 : Int.tdiv (-(u : Int)) 10 = 0 := by rw [Int.neg_tdiv, Int.tdiv_eq_ediv_of_nonneg (by omega)]; omega
  have hcv := conv1 W u hu
  have hlt : -(u : Int) < 0 := by omega
  go_enter Tryd.func44, Tryd.ntmps44
  go_wp2_with fail
  go_ret
  exact ⟨by rw [HI.out]; exact congrArg (fun s => Ending.returned (.string s)) (app_digit [45] u), (SL.St.start W).alloc _ |>.drop⟩

theorem itoa_ne (n : Int) : Lib.itoa n ≠ [] := by
  have h : ∀ u, Lib.decDigits u ≠ [] := fun u => by
    rw [Lib.decDigits]; split <;> simp
  unfold Lib.itoa
  split
  · simp
  · exact h _
set_option maxRecDepth 100000 in
set_option maxHeartbeats 4000000 in
theorem decimal_walk : ∀ (k : Nat) (n : Int), n.natAbs ≤ k → I64 n → ∀ W : World,
    Calls Tryd.prog 44 #[.int .i64 n] W fun e w' => e = .returned (.string ⟨(Lib.itoa n).toArray⟩) ∧ SL.St W [Old W] w' := by
  intro k
  induction k using Nat.strongRecOn with
  | _ k ih =>
    intro n hk hI W
    by_cases hs : n.natAbs < 10
    · rcases Int.natAbs_eq n with hn | hn
      · rw [hn]; exact decimal_small W _ hs
      · by_cases h0 : 0 < n.natAbs
        · rw [hn]; exact decimal_neg W _ hs h0
        · obtain rfl : n = 0 := by omega
          exact decimal_small W 0 (by omega)
    · rcases Int.natAbs_eq n with hn | hn
      · generalize n.natAbs = u at *
        subst hn
        have HI := Lib.hid (itoa_pos2 (u := u) (by omega))
        have C := ih (u / 10) (by omega) ((u / 10 : Nat) : Int) (by omega) (by unfold I64 at *; omega) W
        have hne := itoa_ne ((u / 10 : Nat) : Int)
        have h1 : Int.tmod (u : Int) 10 = ((u % 10 : Nat) : Int) := by rw [Int.tmod_eq_emod_of_nonneg (by omega)]; omega
        have h2 : Int.tdiv (u : Int) 10 = ((u / 10 : Nat) : Int) := by rw [Int.tdiv_eq_ediv_of_nonneg (by omega)]; omega
        have hq0 : 0 < u / 10 := by omega
        have hqm : u / 10 ≤ 922337203685477580 := by unfold I64 at hI; omega
        have hr10 : u % 10 < 10 := by omega
        generalize u / 10 = q at *
        generalize u % 10 = r at *
        unfold I64 at hI
        clear ih hk hs
        have hqn : (q : Int) ≠ 0 := by omega
        go_enter Tryd.func44, Tryd.ntmps44
        go_wp2_with fail
        refine C.mono ?_
        rintro e w1 ⟨rfl, hs1⟩
        have hcv := conv1 w1 r hr10
        have hKl := Lib.itoa_length_le (q : Int) (by omega) (by omega)
        generalize Lib.itoa (q : Int) = K at *
        have hKe : K.isEmpty = false := by cases K with | nil => exact absurd rfl hne | cons _ _ => rfl
        go_wp2_with fail
        go_ret
        exact ⟨by rw [HI.out, app_digit]; rfl, hs1.alloc _ |>.drop⟩
      · generalize n.natAbs = u at *
        subst hn
        have HI := Lib.hid (itoa_neg2 (u := u) (by omega))
        have C := ih (u / 10) (by omega) (-((u / 10 : Nat) : Int)) (by omega) (by unfold I64 at *; omega) W
        have hne := itoa_ne (-((u / 10 : Nat) : Int))
        have h1 : Int.tmod (-(u : Int)) 10 = -((u % 10 : Nat) : Int) := by rw [Int.neg_tmod, Int.tmod_eq_emod_of_nonneg (by omega)]; omega
        have h2 : Int.tdiv (-(u : Int)) 10 = -((u / 10 : Nat) : Int) := by rw [Int.neg_tdiv, Int.tdiv_eq_ediv_of_nonneg (by omega)]; omega
        have hq0 : 0 < u / 10 := by omega
        have hqm : u / 10 ≤ 922337203685477580 := by unfold I64 at hI; omega
        have hr10 : u % 10 < 10 := by omega
        generalize u / 10 = q at *
        generalize u % 10 = r at *
        unfold I64 at hI
        have hlt : -(u : Int) < 0 := by omega
        clear ih hk hs
        have hqn : -(q : Int) ≠ 0 := by omega
        go_enter Tryd.func44, Tryd.ntmps44
        go_wp2_with fail
        refine C.mono ?_
        rintro e w1 ⟨rfl, hs1⟩
        have hcv := conv1 w1 r hr10
        have hKl := Lib.itoa_length_le (-(q : Int)) (by omega) (by omega)
        generalize Lib.itoa (-(q : Int)) = K at *
        have hKe : K.isEmpty = false := by cases K with | nil => exact absurd rfl hne | cons _ _ => rfl
        go_wp2_with fail
        go_ret
        exact ⟨by rw [HI.out, app_digit]; rfl, hs1.alloc _ |>.drop⟩
end Go.Proofs.YtnmkdhoijdoccaaDoor
