/- The law's small helpers. -/
import Derived.Test.YtjllogellpfpkaaDoorAigK0
set_option linter.unusedVariables false
set_option linter.unusedSimpArgs false
namespace Go.Proofs.YtjllogellpfpkaaDoor
open Go Go.RowKit SL

/-- As many values as the graph has inputs. -/
def fitM (n : Nat) (row : List Bool) : List Bool := row.take n ++ List.replicate (n - row.length) false

set_option maxHeartbeats 1000000 in
theorem fit_walk (w0 w : World) (l : List HP) (g : Nat) (ns : Nodes) (h : SL.St w0 (Graph g ns :: l) w) (hl : ns.length ≤ 1073741824) (v : Value) (row : List Bool) (hr : Ent l (Rd cBool v row)) :
    Calls Tryd.prog 20 #[.pointer (some ⟨g, 0, none⟩), v] w fun e w' =>
      ∃ vo, e = .returned vo ∧ SL.St w0 (Arr cBool 4 vo (fitM (inputsOf ns).length row) :: Graph g ns :: l) w' := by
  have hinl := inputsOf_length ns
  obtain ⟨A, c, hv, hm, -⟩ := hr.use h.drop
  subst hv
  unfold maxLen at hm
  have hi := Inputs_walk w0 w l g ns h
  generalize (inputsOf ns).length = n at *
  have hmk := run_make_row' (P := Tryd.prog) 43 4 (.bool false) 1 Tryd.underlying43 infoBool rfl .i64 .i64 n (by omega) (by omega)
  go_enter Tryd.func20, Tryd.ntmps20
  go_wp2_with (go_at_call 17; refine hi.mono ?_; rintro e w' ⟨rfl, rfl⟩)
  have hs3 := (h.alloc (.cells (madeCells #[Value.bool false] n) 4)).arr_made (d := cBool) rfl (x := false) rfl (by unfold maxLen; omega)
  generalize w.heap.size = kv at *
  generalize (w.alloc _) = w2 at hs3 ⊢
  clear hmk h hi
  go_loopg [7] n (fun k i wr => ∃ j : Nat, j ≤ n ∧ j ≤ row.length ∧ k = n - j ∧ i = .int .i64 j ∧ SL.St w0 (Arr cBool 4 (.slice (some ⟨kv, 0, none⟩) n n) (row.take j ++ List.replicate (n - j) false) :: Graph g ns :: l) wr)
  case atStart => exact ⟨0, Nat.zero_le _, Nat.zero_le _, rfl, rfl, by simpa using hs3⟩
  case round =>
    clear hs3
    obtain ⟨j, hj, hj2, hgk, rfl, hsr⟩ := hrel
    subst hgk
    by_cases hlt : j < n
    · by_cases hlt2 : j < row.length
      · obtain ⟨A', c', hv, -, hc⟩ := hr.use (hsr.sel [] 2)
        obtain ⟨ad, hA', hcell⟩ := rd_at_bool hc j hlt2
        obtain rfl : A = some ad := by
          have : A' = A := by injection hv with h1; exact h1.symm
          rw [← this]; exact hA'
        have HT := Lib.hid (show row.take (j + 1) ++ List.replicate (n - (j + 1)) false = (row.take j ++ List.replicate (n - j) false).set j row[j] by
          rw [List.set_append_right _ _ (by simp; omega)]
          rw [show j - (row.take j).length = 0 by simp; omega, show n - j = (n - (j + 1)) + 1 by omega, List.replicate_succ]
          rw [List.take_succ_eq_append_getElem hlt2, List.append_assoc]; rfl)
        have HZ := Lib.hid (show (row.take j ++ List.replicate (n - j) false).length = n by simp; omega)
        have hz0 : (row.take j ++ List.replicate (n - j) false)[j]? = some false := by
          rw [List.getElem?_append_right (by simp; omega), show j - (row.take j).length = 0 by simp; omega, List.getElem?_replicate]
          simp; omega
        clear hc hv hA'
        generalize row.take j ++ List.replicate (n - j) false = zs at *
        obtain ⟨z0, zf⟩ := hsr.arr_cell1 rfl j _ hz0 _ rfl
        generalize row[j] = b at *
        go_wp2_with fail
        go_roundg (n - (j + 1))
        case measure => omega
        case rel => exact ⟨j + 1, by omega, by omega, rfl, by go_num, by rw [HT.out]; exact hsr.arr_set1 rfl j (by rw [HZ.out]; exact hlt) b _ rfl⟩
      · go_wp2_with fail
        go_ret
        refine ⟨_, rfl, ?_⟩
        unfold fitM
        obtain rfl : j = row.length := by omega
        rw [List.take_length] at hsr
        rw [List.take_of_length_le (by omega)]
        exact hsr
    · obtain rfl : j = n := by omega
      go_wp2_with fail
      go_ret
      refine ⟨_, rfl, ?_⟩
      unfold fitM
      rw [Nat.sub_self] at hsr
      rw [Nat.sub_eq_zero_of_le hj2]
      exact hsr
end Go.Proofs.YtjllogellpfpkaaDoor
