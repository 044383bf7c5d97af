/- The reference's graph: Values, Eval. -/
import Derived.Test.YtjeopmiopinlgaaTsD
set_option linter.unusedVariables false
set_option linter.unusedSimpArgs false
namespace Go.Proofs.Ytjeopmiopinlgaa
open Go Go.RowKit SL

def valsTo (V : Nat → Bool) (j n : Nat) : List Bool := (List.range j).map V ++ List.replicate (n - j) false
theorem valsTo_length (V : Nat → Bool) {j n : Nat} (h : j ≤ n) : (valsTo V j n).length = n := by simp [valsTo]; omega
theorem valsTo_succ (V : Nat → Bool) {j n : Nat} (h : j < n) : valsTo V (j + 1) n = (valsTo V j n).set j (V j) := by
  unfold valsTo
  rw [List.range_succ, List.map_append, List.set_append_right _ _ (by simp), show n - j = (n - (j + 1)) + 1 by omega, List.replicate_succ]
  simp
theorem valsTo_at (V : Nat → Bool) {j n : Nat} (h : j < n) : (valsTo V j n)[j]? = some false := by
  unfold valsTo
  rw [List.getElem?_append_right (by simp), List.getElem?_replicate]
  simp; omega
theorem valsTo_get (V : Nat → Bool) {i j n : Nat} (h : i < j) : (valsTo V j n).getD i false = V i := by
  unfold valsTo
  rw [List.getD_eq_getElem?_getD, List.getElem?_append_left (by simp [h])]
  simp [h]
theorem valsTo_end (V : Nat → Bool) (n : Nat) : valsTo V n n = (List.range n).map V := by simp [valsTo]
theorem valsTo_same (V : Nat → Bool) {j n : Nat} (h : j < n) (hv : V j = false) : valsTo V (j + 1) n = valsTo V j n := by
  rw [valsTo_succ V h, hv]
  apply List.ext_getElem?
  intro i
  rw [List.getElem?_set]
  by_cases hij : j = i
  · subst hij; rw [valsTo_at V h, if_pos rfl, if_pos (by rw [valsTo_length V (by omega)]; exact h)]
  · rw [if_neg hij]

set_option maxRecDepth 100000 in
set_option maxHeartbeats 4000000 in
theorem rValues_walk (w0 w : World) (l : List HP) (r N : Nat) (ns : Nodes) (h : SL.St w0 (RGraph r (rnodes ns) N :: l) w) (hw : Wf ns) (hwi : WfIn ns) (hlen : ns.length ≤ 1073741824) (vi : Value) (row : List Bool) (hri : Ent l (Rd cBool vi row)) (hil : row.length = (inputsOf ns).length)
    (V : Nat → Bool) (hV : IsVal ns (fun i => row.getD i false) V) :
    Calls Try.prog 51 #[.pointer (some ⟨r, 0, none⟩), vi] w fun e w' =>
      ∃ vo, e = .returned vo ∧ SL.St w0 (Arr cBool 4 vo ((List.range ns.length).map V) :: RGraph r (rnodes ns) N :: l) w' := by
  have hinl := inputsOf_length ns
  obtain ⟨Ai, ci, hvi, hmi, -⟩ := hri.use h.drop
  subst hvi
  obtain ⟨Ag, cg, g0, -⟩ := rg_slice h
  have hmk := run_make_row' (P := Try.prog) 48 4 (.bool false) 1 Try.underlying48 infoBool rfl .i64 .i64 ns.length (by omega) (by omega)
  have h1 := (h.alloc (.cells (madeCells #[Value.bool false] ns.length) 4)).arr_made (d := cBool) rfl (x := false) rfl (by unfold maxLen; omega)
  go_enter Try.func51, Try.ntmps51
  go_wp2_with fail
  generalize w.heap.size = gs at h1 ⊢
  generalize (w.alloc _) = w2 at h1 ⊢
  clear hmk h g0
  have HIL := Lib.hid hil; clear hil
  go_loopg [6] ns.length (fun k i wr => ∃ j : Nat, j ≤ ns.length ∧ k = ns.length - j ∧ i = .int .i64 j ∧ SL.St w0 (Arr cBool 4 (.slice (some ⟨gs, 0, none⟩) ns.length ns.length) (valsTo V j ns.length) :: RGraph r (rnodes ns) N :: l) wr)
  case atStart => exact ⟨0, Nat.zero_le _, rfl, rfl, by simpa [valsTo] using h1⟩
  case round =>
    clear h1
    obtain ⟨j, hj, hgk, rfl, hsr⟩ := hrel
    subst hgk
    by_cases hlt : j < ns.length
    · obtain ⟨vL, hR⟩ := St.rgraph (hsr.pull 1)
      obtain ⟨gL, cc, hv⟩ := (hR.pull 1).arr_form (by rw [rnodes_length]; omega)
      rw [rnodes_length] at hv
      subst hv
      have hx := rnodes_get hlt
      have g0 : wr.cell? ⟨r, 0, none⟩ = some (.slice (some ⟨gL, 0, none⟩) ns.length cc) := hR.cell 0
      have n0 := ((hR.pull 1).arr_cell _ _ hx 0 _ rfl).1
      have n1 := ((hR.pull 1).arr_cell _ _ hx 1 _ rfl).1
      have n2 := ((hR.pull 1).arr_cell _ _ hx 2 _ rfl).1
      simp only [cNode, Nat.add_zero] at n0 n1 n2
      clear hx hR
      obtain ⟨c0, c1⟩ := hsr.arr_cell1 rfl j false (valsTo_at V hlt) _ rfl
      have hset := fun b => hsr.arr_set1 rfl j (by rw [valsTo_length V hj]; exact hlt) b _ rfl
      have HSET := Lib.hid hset; clear hset
      have HS := Lib.hid (valsTo_succ V hlt)
      by_cases hg : isGate ns j = true
      · have hng : nodeM ns j = (2, (nd0 ns j).1, (nd0 ns j).2) := nodeM_gate hg
        have ho := hw.2 j hlt hg
        have hv : V j = (litB V (nd0 ns j).1 && litB V (nd0 ns j).2) := hV.gate j hlt hg
        rw [hng] at n0 n1 n2
        simp only at n0 n1 n2
        have hXb : (nd0 ns j).1 < 4294967294 := by have := ho.1; unfold opA at this; unfold nd0; omega
        have hYb : (nd0 ns j).2 < 4294967294 := by have := ho.2; unfold opB at this; unfold nd0; omega
        have hX : (nd0 ns j).1 / 2 < j := ho.1
        have hY : (nd0 ns j).2 / 2 < j := ho.2
        clear hng ho
        generalize (nd0 ns j).1 = X at *
        generalize (nd0 ns j).2 = Y at *
        have mm : ∀ x : Nat, x / 2 < j → x < 4294967294 → Calls Try.prog 52 #[.slice (some ⟨gs, 0, none⟩) ns.length ns.length, .int .u32 (x : Nat)] wr fun e w' => wr = w' ∧ e = .returned (.bool (litB V x)) := fun x h1 h2 => by
          have h3 := hsr.rd
          have := rof_walk wr _ _ h3 x (by rw [valsTo_length V hj]; omega) (by omega)
          rw [valsTo_get V h1] at this
          exact this
        have HV := Lib.hid hv; clear hv
        cases hbx : litB V X with
        | true =>
          rw [hbx] at HV
          go_wp2_with (go_at_call 52; refine (mm _ (by assumption) (by assumption)).mono ?_; rintro e w' ⟨rfl, rfl⟩)
          go_roundg (ns.length - (j + 1))
          case measure => omega
          case rel => exact ⟨j + 1, by omega, rfl, by go_num, by rw [HS.out, HV.out]; exact HSET.out _⟩
        | false =>
          rw [hbx] at HV
          go_wp2_with (go_at_call 52; refine (mm _ (by assumption) (by assumption)).mono ?_; rintro e w' ⟨rfl, rfl⟩)
          go_roundg (ns.length - (j + 1))
          case measure => omega
          case rel => exact ⟨j + 1, by omega, rfl, by go_num, by rw [HS.out, HV.out]; exact HSET.out _⟩
      · have hg' : isGate ns j = false := by simpa using hg
        by_cases hj0 : j = 0
        · have hv := hV.zero
          have e : nodeM ns j = (0, 0, 0) := by unfold nodeM; rw [if_pos hj0]
          rw [e] at n0 n1
          have HS2 := Lib.hid (valsTo_same V hlt (by rw [hj0]; exact hv))
          have HJ := Lib.hid hj0
          clear hj0 hv e hg hg' hV hw hwi n1 n2
          go_wp2_with fail
          go_roundg (ns.length - (j + 1))
          case measure => omega
          case rel => exact ⟨j + 1, by omega, rfl, by go_num, by rw [HS2.out]; exact hsr⟩
        · have hm : (ns.getD j (0, 0)).1 = mark := by
            unfold isGate at hg'
            simpa [hj0] using hg'
          have e : nodeM ns j = (1, (ns.getD j (0, 0)).2, 0) := by unfold nodeM; rw [if_neg hj0, if_pos hm]
          have hv : V j = row.getD (ns.getD j (0, 0)).2 false := hV.ins j hlt hj0 hg'
          have hin := hwi j hlt hj0 hg'
          rw [e] at n0 n1
          simp only at n0 n1
          clear e hm hg hg' n2
          generalize (ns.getD j (0, 0)).2 = q at *
          have hqr : q < row.length := by rw [HIL.out]; exact hin
          obtain ⟨A', c', hv2, -, hc⟩ := hri.use (hsr.sel [] 2)
          obtain ⟨ad, hA', hcell⟩ := rd_at_bool hc q hqr
          obtain rfl : Ai = some ad := by
            have : A' = Ai := by injection hv2 with h1; exact h1.symm
            rw [← this]; exact hA'
          have hgd : row.getD q false = row[q] := by simp [List.getD_eq_getElem?_getD, hqr]
          rw [hgd] at hv
          clear hc hv2 hA' hgd
          generalize row[q] = b at *
          have HV := Lib.hid hv; clear hv
          go_wp2_with fail
          go_roundg (ns.length - (j + 1))
          case measure => omega
          case rel => exact ⟨j + 1, by omega, rfl, by go_num, by rw [HS.out, HV.out]; exact HSET.out _⟩
    · obtain rfl : j = ns.length := by omega
      rw [valsTo_end] at hsr
      obtain ⟨Ag, cg, g0, -⟩ := rg_slice (hsr.pull 1)
      go_wp2_with fail
      go_ret
      exact ⟨_, rfl, hsr⟩

set_option maxRecDepth 100000 in
set_option maxHeartbeats 4000000 in
theorem rEval_walk (w0 w : World) (l : List HP) (r : Nat) (ns : Nodes) (h : SL.St w0 (RGraph r (rnodes ns) (inputsOf ns).length :: l) w) (hw : Wf ns) (hwi : WfIn ns) (hlen : ns.length ≤ 1073741824) (vi : Value) (row : List Bool) (hri : Ent l (Rd cBool vi row)) (hil : row.length = (inputsOf ns).length)
    (v : Value) (roots : List Nat) (hr : Ent l (Rd (cNat .u32) v roots)) (hx : ∀ y ∈ roots, y < 2 * ns.length) (hrl : roots.length ≤ 1073741824) (V : Nat → Bool) (hV : IsVal ns (fun i => row.getD i false) V) :
    Calls Try.prog 22 #[.pointer (some ⟨r, 0, none⟩), vi, v] w fun e w' =>
      ∃ vo, e = .returned (.tuple #[vo, .int .i64 0]) ∧ SL.St w0 (Arr cBool 4 vo (roots.map (litB V)) :: RGraph r (rnodes ns) (inputsOf ns).length :: l) w' := by
  have hbad := rbad_walk w0 w l r _ ns h v roots (hr.use h.drop) (fun y hy => by have := hx y hy; omega)
  rw [any_false hx] at hbad
  obtain ⟨A, c, hv, hm, -⟩ := hr.use h.drop
  subst hv
  obtain ⟨Ai, ci, hvi, hmi, -⟩ := hri.use h.drop
  subst hvi
  obtain ⟨Ag, cg, g0, g1⟩ := rg_slice h
  have hne : ((row.length : Int) != ((inputsOf ns).length : Int)) = false := by rw [hil]; simp
  have hvw := rValues_walk w0 w l r _ ns h hw hwi hlen _ row hri hil V hV
  have HIL := Lib.hid hil; clear hil
  go_enter Try.func22, Try.ntmps22
  go_wp2_with (first | (go_at_call 50; refine hbad.mono ?_; rintro e w' ⟨rfl, rfl⟩) | (go_at_call 51; refine hvw.mono ?_; rintro e w1 ⟨vo, rfl, h1⟩))
  obtain ⟨Av, cv, hv, -, -⟩ := h1.rd
  rw [List.length_map, List.length_range] at hv
  subst hv
  clear hne hbad hvw g0 g1 h
  go_loopg [9, 10] roots.length (fun k vo i wr => ∃ j : Nat, j ≤ roots.length ∧ k = roots.length - j ∧ i = .int .i64 j ∧ SL.St w0 (Arr cBool 4 vo ((roots.take j).map (litB V)) :: Arr cBool 4 (.slice Av ns.length cv) ((List.range ns.length).map V) :: RGraph r (rnodes ns) (inputsOf ns).length :: l) wr)
  case atStart => exact ⟨0, Nat.zero_le _, rfl, rfl, h1.rows_nil cBool 4⟩
  case round =>
    clear h1
    obtain ⟨j, hj, hgk, rfl, hsr⟩ := hrel
    subst hgk
    by_cases hlt : j < roots.length
    · obtain ⟨A', c', hv, -, hc⟩ := hr.use (hsr.sel [] 3)
      obtain ⟨ad, hA', hcell⟩ := rd_at hc j hlt
      obtain rfl : A = some ad := by
        have : A' = A := by injection hv with h1; exact h1.symm
        rw [← this]; exact hA'
      have HT := Lib.hid (show (roots.take (j + 1)).map (litB V) = (roots.take j).map (litB V) ++ [litB V roots[j]] by rw [List.take_succ_eq_append_getElem hlt, List.map_append]; rfl)
      have hb := hx _ (List.getElem_mem hlt)
      have HLJ := Lib.hid (show ((roots.take j).map (litB V)).length = j by simp; omega)
      clear hc hv hA'
      generalize (roots.take j).map (litB V) = os at *
      generalize roots[j] = x at *
      have mm := rof_walk wr _ _ (hsr.pull 1).rd x (by simp; omega) (by omega)
      have hgd : ((List.range ns.length).map V).getD (x / 2) false = V (x / 2) := by
        simp [List.getD_eq_getElem?_getD, show x / 2 < ns.length by omega]
      rw [hgd, show (V (x / 2) != (x % 2 == 1)) = litB V x from rfl] at mm
      clear hgd
      generalize litB V x = b at *
      have hsa := hsr.alloc (.cells #[.bool b] 4)
      obtain ⟨Ao, co, rfl, -, -⟩ := hsr.rd
      go_wp2_with (first | (go_at_call 52; refine mm.mono ?_; rintro e w' ⟨rfl, rfl⟩) | (at_builtin; go_loud (refine wpList_app rfl _ _ rfl Try.underlying48 infoBool rfl (hsa.pull 1) rfl (ys := [b]) rfl (hsa.rd_blk (ys := [b]) 1 1 rfl rfl (by decide)) (by have := HLJ.out; simp; omega) (by have := HLJ.out; simp; omega) ?_); intro vo' w7 hs7))
      go_roundg (roots.length - (j + 1))
      case measure => omega
      case rel => exact ⟨j + 1, by omega, rfl, by go_num, by rw [HT.out]; exact hs7.sel [0, 2, 3] 1⟩
    · obtain rfl : j = roots.length := by omega
      rw [List.take_length] at hsr
      go_wp2_with fail
      go_ret2
      exact ⟨_, rfl, hsr.sel [0, 2] 1⟩
end Go.Proofs.Ytjeopmiopinlgaa
