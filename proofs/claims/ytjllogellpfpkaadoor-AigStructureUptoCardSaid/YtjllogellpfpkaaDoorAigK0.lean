/- The laws' small helpers: no, pick. -/
import Derived.Test.YtjllogellpfpkaaDoorAigJ
import Derived.Test.YtjllogellpfpkaaDoorAigQ
set_option linter.unusedVariables false
set_option linter.unusedSimpArgs false
namespace Go.Proofs.YtjllogellpfpkaaDoor
open Go Go.RowKit SL

theorem no_walk (w : World) (n : Int) (h1 : -9223372036854775808 ≤ n) (h2 : n ≤ 9223372036854775807) :
    Calls Tryd.prog 16 #[.int .i64 n] w fun e w' => w = w' ∧ e = .returned (.int .i64 n) := by
  go_enter Tryd.func16, Tryd.ntmps16
  go_wp2
  go_ret
  exact ⟨rfl, rfl⟩

theorem xor1_u32 (x : Nat) (h : x < 4294967296) : bits .xor .u32 (x : Int) 1 = ((notL x : Nat) : Int) := by
  have := u32_xor_nat x 1 h (by omega)
  rw [xor_one, show ((1 : Nat) : Int) = 1 from rfl] at this
  exact this
theorem tmod_nat (a b : Nat) : Int.tmod (a : Int) (b : Int) = ((a % b : Nat) : Int) := by rw [Int.ofNat_tmod]

set_option maxHeartbeats 400000 in
theorem pick_walk (w : World) (v : Value) (xs : List Nat) (hr : Rd (cNat .u32) v xs w) (hx : ∀ x ∈ xs, x < 4294967296) (h0 : 0 < xs.length) (hl : xs.length ≤ 1073741824) (i : Int) (h1 : -9223372036854775808 ≤ i) (h2 : i ≤ 9223372036854775807) :
    Calls Tryd.prog 13 #[v, .int .i64 i] w fun e w' => w = w' ∧ e = .returned (.int .u32 (pickM xs i : Nat)) := by
  obtain ⟨A, c, rfl, -, hc⟩ := hr
  have hlt := roundI_lt h0 i
  obtain ⟨ad, rfl, hcell⟩ := rd_at hc _ hlt
  have hb := hx _ (List.getElem_mem hlt)
  have hg : xs.getD (roundI xs.length i) 0 = xs[roundI xs.length i] := by simp [List.getD_eq_getElem?_getD, hlt]
  have HP : pickM xs i = if i < 0 then notL xs[roundI xs.length i] else xs[roundI xs.length i] := by unfold pickM; rw [hg]
  generalize pickM xs i = p at *
  clear hc hg hx
  generalize xs[roundI xs.length i] = x at *
  have hne : ((xs.length : Int) == 0) = false := by rw [beq_eq_false_iff_ne]; omega
  have hxx := xor1_u32 x hb
  by_cases hi : i < 0
  · rw [if_pos hi] at HP
    have HP := Lib.hid HP
    have hq : Int.tmod (-(i + 1)) (xs.length : Int) = ((roundI xs.length i : Nat) : Int) := by
      unfold roundI; rw [if_pos hi, ← tmod_nat, Int.toNat_of_nonneg (a := -(i + 1)) (by omega)]
    generalize roundI xs.length i = q at *
    go_enter Tryd.func13, Tryd.ntmps13
    go_wp2
    go_ret
    rw [HP.out]
    exact ⟨rfl, rfl⟩
  · rw [if_neg hi] at HP
    have HP := Lib.hid HP
    have hq : Int.tmod i (xs.length : Int) = ((roundI xs.length i : Nat) : Int) := by
      unfold roundI; rw [if_neg hi, ← tmod_nat, Int.toNat_of_nonneg (a := i) (by omega)]
    generalize roundI xs.length i = q at *
    go_enter Tryd.func13, Tryd.ntmps13
    go_wp2
    go_ret
    exact ⟨rfl, rfl⟩

end Go.Proofs.YtjllogellpfpkaaDoor
