/- Eval: one row. -/
import Derived.Test.YtjllogellpfpkaaDoorAigI
import Derived.WalkSmall
set_option linter.unusedVariables false
set_option linter.unusedSimpArgs false
namespace Go.Proofs.YtjllogellpfpkaaDoor
open Go Go.RowKit SL

def bitOf (b : Bool) : Nat := if b then 1 else 0
def evalM (ns : Nodes) (row : List Bool) (roots : List Nat) : List Bool := (simM ns (row.map bitOf) roots).map (fun w => w % 2 == 1)

set_option maxRecDepth 100000 in
set_option maxHeartbeats 4000000 in
theorem Eval_walk (w0 w : World) (l : List HP) (g : Nat) (ns : Nodes) (h : SL.St w0 (Graph g ns :: l) w) (hw : Wf ns) (hwi : WfIn ns) (hl : ns.length ≤ 1073741824) (vi : Value) (row : List Bool) (hri : Ent l (Rd cBool vi row)) (hil : row.length = (inputsOf ns).length)
    (v : Value) (roots : List Nat) (hr : Ent l (Rd (cNat .u32) v roots)) (hx : ∀ y ∈ roots, y < 2 * ns.length) (hrl : roots.length ≤ 1073741824) :
    Calls Tryd.prog 21 #[.pointer (some ⟨g, 0, none⟩), vi, v] w fun e w' =>
      ∃ vo, e = .returned (.tuple #[vo, .int .i64 0]) ∧ SL.St w0 (Arr cBool 4 vo (evalM ns row roots) :: Graph g ns :: l) w' := by
  have hinl := inputsOf_length ns
  obtain ⟨Ai, ci, hvi, hmi, -⟩ := hri.use h.drop
  subst hvi
  unfold maxLen at hmi
  have hSM : evalM ns row roots = (simM ns (row.map bitOf) roots).map (fun w => w % 2 == 1) := rfl
  generalize evalM ns row roots = EM at hSM ⊢
  have HM := Lib.hid hSM; clear hSM
  have hsl : (simM ns (row.map bitOf) roots).length = roots.length := by simp [simM]
  have hmk := run_make_row' (P := Tryd.prog) 67 101 (.int .u64 0) 8 Tryd.underlying67 infoU64 rfl .i64 .i64 row.length (by omega) (by omega)
  have hmk2 := run_make_cap (P := Tryd.prog) 43 4 (.bool false) 1 Tryd.underlying43 infoBool rfl .i64 .i64 roots.length (by omega) (by omega)
  have HIL := Lib.hid hil; clear hil
  go_enter Tryd.func21, Tryd.ntmps21
  go_wp2_with fail
  have hs3 := (h.alloc (.cells (madeCells #[Value.int .u64 0] row.length) 101)).arr_made (d := cNat .u64) rfl (x := 0) rfl (by unfold maxLen; omega)
  generalize w.heap.size = kv at *
  generalize (w.alloc _) = w2 at hs3 ⊢
  clear hmk h
  go_loopg [21] row.length (fun k i wr => ∃ j : Nat, j ≤ row.length ∧ k = row.length - j ∧ i = .int .i64 j ∧ SL.St w0 (Arr (cNat .u64) 101 (.slice (some ⟨kv, 0, none⟩) row.length row.length) ((row.take j).map bitOf ++ List.replicate (row.length - j) 0) :: Graph g ns :: l) wr)
  case atStart => exact ⟨0, Nat.zero_le _, rfl, rfl, by simpa using hs3⟩
  case round =>
    clear hs3
    obtain ⟨j, hj, hgk, rfl, hsr⟩ := hrel
    subst hgk
    by_cases hlt : j < row.length
    · obtain ⟨A', c', hv, -, hc⟩ := hri.use (hsr.sel [] 2)
      obtain ⟨ad, hA', hcell⟩ := rd_at_bool hc j hlt
      obtain rfl : Ai = some ad := by
        have : A' = Ai := by injection hv with h1; exact h1.symm
        rw [← this]; exact hA'
      have HT := Lib.hid (show (row.take (j + 1)).map bitOf ++ List.replicate (row.length - (j + 1)) 0 = ((row.take j).map bitOf ++ List.replicate (row.length - j) 0).set j (bitOf row[j]) by
        rw [List.take_succ_eq_append_getElem hlt, List.map_append, List.set_append_right _ _ (by simp; omega)]
        rw [show j - ((row.take j).map bitOf).length = 0 by simp; omega, show row.length - j = (row.length - (j + 1)) + 1 by omega, List.replicate_succ]
        simp)
      have hzl : ((row.take j).map bitOf ++ List.replicate (row.length - j) 0).length = row.length := by simp; omega
      have hz0 : ((row.take j).map bitOf ++ List.replicate (row.length - j) 0)[j]? = some 0 := by
        rw [List.getElem?_append_right (by simp; omega), show j - ((row.take j).map bitOf).length = 0 by simp; omega, List.getElem?_replicate]
        simp; omega
      clear hc hv hA'
      generalize (row.take j).map bitOf ++ List.replicate (row.length - j) 0 = zs at *
      obtain ⟨z0, zf⟩ := hsr.arr_cell1 rfl j _ hz0 _ rfl
      have HZ := Lib.hid hzl; clear hzl
      generalize row[j] = b at *
      cases b with
      | true =>
        go_wp2_with fail
        go_roundg (row.length - (j + 1))
        case measure => omega
        case rel => exact ⟨j + 1, by omega, rfl, by go_num, by rw [HT.out]; exact hsr.arr_set1 rfl j (by rw [HZ.out]; exact hlt) 1 _ rfl⟩
      | false =>
        go_wp2_with fail
        go_roundg (row.length - (j + 1))
        case measure => omega
        case rel => exact ⟨j + 1, by omega, rfl, by go_num, by
          rw [HT.out, show zs.set j (bitOf false) = zs from by
            apply List.ext_getElem?
            intro i
            rw [List.getElem?_set]
            by_cases hij : j = i
            · subst hij; rw [hz0, if_pos rfl, if_pos (by rw [HZ.out]; exact hlt)]; rfl
            · rw [if_neg hij]]
          exact hsr⟩
    · obtain rfl : j = row.length := by omega
      rw [List.take_length, Nat.sub_self, List.replicate_zero, List.append_nil] at hsr
      have hib : ∀ y ∈ row.map bitOf, y < 18446744073709551616 := by
        intro y hy; obtain ⟨b, -, rfl⟩ := List.mem_map.1 hy; cases b <;> decide
      go_wp2_with fail
      refine (Sim_walk w0 wr (_ :: l) g ns hsr.swap hw hwi hl _ (row.map bitOf) Ent.rd (by simpa using HIL.out) hib v roots (Ent.tail hr) hx hrl).mono ?_
      rintro e w3 ⟨vs, rfl, hs4⟩
      obtain ⟨As, cs, rfl, -, -⟩ := hs4.rd
      have hsb := simM_lt (ns := ns) hib roots
      generalize simM ns (row.map bitOf) roots = ss at *
      rw [hsl] at hs4 ⊢
      go_wp2_with fail
      have hs5 := (((SL.St.alloc hs4 (.cells (madeCells #[Value.bool false] roots.length) 4)).arr_empty (d := cBool) rfl (by unfold maxLen; omega)))
      generalize w3.heap.size = ko at hs5 ⊢
      generalize (World.alloc w3 _) = w5 at hs5 ⊢
      clear hs4 hmk2 hsr
      go_loopg [13, 46] roots.length (fun k vo i wr => ∃ j : Nat, j ≤ roots.length ∧ k = roots.length - j ∧ i = .int .i64 j ∧ SL.St w0 (Arr cBool 4 vo ((ss.take j).map (fun w => w % 2 == 1)) :: Arr (cNat .u64) 101 (.slice As roots.length cs) ss :: Graph g ns :: Arr (cNat .u64) 101 (.slice (some ⟨kv, 0, none⟩) row.length row.length) (row.map bitOf) :: l) wr)
      case atStart => exact ⟨0, Nat.zero_le _, rfl, rfl, hs5⟩
      case round =>
        clear hs5
        obtain ⟨j, hj, hgk, rfl, hsr⟩ := hrel
        subst hgk
        obtain ⟨Ao, co, rfl, -, -⟩ := hsr.rd
        by_cases hlt : j < roots.length
        · obtain ⟨A', c', hv, -, hc⟩ := (hsr.pull 1).rd
          obtain ⟨ad, hA', hcell⟩ := rd_at hc j (by omega)
          obtain rfl : As = some ad := by
            have : A' = As := by injection hv with h1; exact h1.symm
            rw [← this]; exact hA'
          have HT := Lib.hid (show (ss.take (j + 1)).map (fun w => w % 2 == 1) = (ss.take j).map (fun w => w % 2 == 1) ++ [ss[j]'(by omega) % 2 == 1] by rw [List.take_succ_eq_append_getElem (by omega), List.map_append]; rfl)
          have HLJ := Lib.hid (show ((ss.take j).map (fun w => w % 2 == 1)).length = j by simp; omega)
          have hb := hsb _ (List.getElem_mem (show j < ss.length by omega))
          clear hc hv hA'
          generalize (ss.take j).map (fun w => w % 2 == 1) = os at *
          generalize hz : ss[j]'(by omega) = z at *
          clear hz
          have hbe : (bits .and .u64 (z : Int) 1 == 1) = (z % 2 == 1) := by
            rw [and_one_u64 _ (by omega) (by omega)]
            have : z % 2 = 0 ∨ z % 2 = 1 := by omega
            have e : ((z : Int)) % 2 = ((z % 2 : Nat) : Int) := by omega
            rw [e]
            rcases this with h1 | h1 <;> rw [h1] <;> rfl
          have hsa := hsr.alloc (.cells #[.bool (z % 2 == 1)] 4)
          go_wp2_with (first | (at_builtin; go_loud (refine wpList_app rfl _ _ rfl Tryd.underlying43 infoBool rfl (hsa.pull 1) rfl (ys := [z % 2 == 1]) rfl (hsa.rd_blk (ys := [z % 2 == 1]) 1 1 rfl rfl (by decide)) (by have := HLJ.out; simp; omega) (by have := HLJ.out; simp; omega) ?_); intro vo' w7 hs7))
          go_roundg (roots.length - (j + 1))
          case measure => omega
          case rel => exact ⟨j + 1, by omega, rfl, by go_num, by rw [HT.out]; exact hs7.sel [0, 2, 3, 4] 1⟩
        · obtain rfl : j = roots.length := by omega
          have HE := Lib.hid (show ss.map (fun w => w % 2 == 1) = (ss.take roots.length).map (fun w => w % 2 == 1) by rw [← hsl, List.take_length])
          generalize (ss.take roots.length).map (fun w => w % 2 == 1) = os at *
          go_wp2_with fail
          go_ret2
          refine ⟨_, rfl, ?_⟩
          rw [HM.out, HE.out]
          exact hsr.sel [0, 2] 2
end Go.Proofs.YtjllogellpfpkaaDoor
