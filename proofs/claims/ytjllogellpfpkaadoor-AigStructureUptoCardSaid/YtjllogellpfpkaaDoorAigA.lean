/- The small methods of the circuits' graph. -/
import Derived.Test.YtjllogellpfpkaaDoorAigW
set_option linter.unusedVariables false
set_option linter.unusedSimpArgs false
namespace Go.Proofs.YtjllogellpfpkaaDoor
open Go Go.RowKit SL

set_option maxHeartbeats 400000 in
theorem may_walk (w : World) (g : Nat) (A : Option Addr) (n c : Nat) (v : Value) (xs : List Nat) (hg : w.cell? ⟨g, 0, none⟩ = some (.slice A n c)) (hn : n ≤ 1073741824)
    (hr : Rd (cNat .u32) v xs w) (hx : ∀ x ∈ xs, x < 4294967296) :
    Calls Tryd.prog 46 #[.pointer (some ⟨g, 0, none⟩), v] w fun e w' => w = w' ∧ e = .returned (.bool (xs.all fun x => decide (x / 2 < n))) := by
  obtain ⟨L, m, rfl, hm, hc⟩ := hr
  have hm' : xs.length ≤ 9223372036854775807 := by unfold maxLen at hm; omega
  go_enter Tryd.func46, Tryd.ntmps46
  go_wp2
  go_loop [9] (fun i => ∃ k : Nat, k ≤ xs.length ∧ i = .int .i64 k ∧ (xs.take k).all (fun x => decide (x / 2 < n)) = true) (fun i => xs.length - (intOf i).toNat)
  case atStart => exact ⟨0, Nat.zero_le _, rfl, rfl⟩
  case round =>
    obtain ⟨k, hk, rfl, hall⟩ := hrel
    by_cases hlt : k < xs.length
    · obtain ⟨ad, rfl, hcell⟩ := rd_at hc k hlt
      have hb := hx _ (List.getElem_mem hlt)
      have ht : xs.take (k + 1) = xs.take k ++ [xs[k]] := by rw [List.take_succ_eq_append_getElem hlt]
      have hmem : xs[k] ∈ xs := List.getElem_mem hlt
      have HT := Lib.hid ht
      clear ht hc hx
      generalize hxk : xs[k] = x at *
      have HX := Lib.hid hxk
      clear hxk
      go_wp2
      · have hge : n ≤ x / 2 := by omega
        go_ret
        have : (xs.all fun x => decide (x / 2 < n)) = false := by
          rw [List.all_eq_false]; exact ⟨x, hmem, by simp; omega⟩
        simp [this]
      · have hlt2 : x / 2 < n := by omega
        go_round
        case rel => exact ⟨k + 1, by omega, by go_num, by rw [HT.out, List.all_append, hall]; simp [hlt2]⟩
        case measure => simp [intOf]; omega
    · obtain rfl : k = xs.length := by omega
      rw [List.take_length] at hall
      go_wp2
      go_ret
      simp [hall]
end Go.Proofs.YtjllogellpfpkaaDoor
