/- The reference's Fill. -/
import Derived.Test.YtjeopmiopinlgaaTsE
import Derived.Test.YtjeopmiopinlgaaTsW
set_option linter.unusedVariables false
set_option linter.unusedSimpArgs false
namespace Go.Proofs.Ytjeopmiopinlgaa
open Go Go.RowKit SL

theorem rFill_nil (w : World) (v vi : Value) :
    Calls Try.prog 30 #[.pointer none, v, vi] w fun e w' => w = w' ∧ e = .returned (.tuple #[.slice none 0 0, .int .i64 2]) := by
  go_enter Try.func30, Try.ntmps30
  go_wp2_with fail
  go_ret2
  exact ⟨rfl, rfl⟩
theorem rFill_bad (w0 w : World) (l : List HP) (r N : Nat) (ns : Nodes) (h : SL.St w0 (RGraph r (rnodes ns) N :: l) w) (v vi : Value) (roots : List Nat) (hr : Ent l (Rd (cNat .u32) v roots)) (hxb : ∀ y ∈ roots, y < 4294967296) (hx : ¬ ∀ y ∈ roots, y < 2 * ns.length) :
    Calls Try.prog 30 #[.pointer (some ⟨r, 0, none⟩), v, vi] w fun e w' => e = .returned (.tuple #[.slice none 0 0, .int .i64 100]) ∧ SL.St w0 (RGraph r (rnodes ns) N :: l) w' := by
  have hcw := rCone_bad w0 w l r N ns h v roots hr hxb hx
  clear hx
  go_enter Try.func30, Try.ntmps30
  go_wp2_with (go_at_call 29; refine hcw.mono ?_; rintro e w1 ⟨rfl, h1⟩)
  go_ret2
  exact ⟨rfl, h1⟩
theorem rFill_arg (w0 w : World) (l : List HP) (r N : Nat) (ns : Nodes) (h : SL.St w0 (RGraph r (rnodes ns) N :: l) w) (hw : Wf ns) (hl : ns.length ≤ 1073741824) (v vi : Value) (roots : List Nat) (hr : Ent l (Rd (cNat .u32) v roots)) (hx : ∀ y ∈ roots, y < 2 * ns.length) (row : List Bool) (hri : Ent l (Rd cBool vi row)) (hil : row.length ≠ N) :
    Calls Try.prog 30 #[.pointer (some ⟨r, 0, none⟩), v, vi] w fun e w' => e = .returned (.tuple #[.slice none 0 0, .int .i64 1]) ∧ SL.St w0 (RGraph r (rnodes ns) N :: l) w' := by
  have hcw := rCone_walk w0 w l r N ns h hw hl v roots hr hx
  obtain ⟨Ai, ci, hvi, hmi, -⟩ := hri.use h.drop
  subst hvi
  have hne : ((row.length : Int) != (N : Int)) = true := by simp; omega
  clear hil
  go_enter Try.func30, Try.ntmps30
  go_wp2_with (go_at_call 29; refine hcw.mono ?_; rintro e w1 ⟨vc, rfl, h1⟩; have g1 : w1.cell? ⟨r, 1, none⟩ = some (.int .i64 (N : Nat)) := (rg_slice (h1.pull 1)).choose_spec.choose_spec.2)
  go_ret2
  exact ⟨rfl, h1.drop⟩

set_option maxRecDepth 100000 in
set_option maxHeartbeats 8000000 in
theorem rFill_walk (w0 w : World) (l : List HP) (r : Nat) (ns : Nodes) (h : SL.St w0 (RGraph r (rnodes ns) (inputsOf ns).length :: l) w) (hw : Wf ns) (hwi : WfIn ns) (hl : ns.length ≤ 1048577) (v vi : Value) (roots : List Nat) (hr : Ent l (Rd (cNat .u32) v roots)) (hx : ∀ y ∈ roots, y < 2 * ns.length) (hKl : (coneM ns roots).length ≤ 1048576)
    (row : List Bool) (hri : Ent l (Rd cBool vi row)) (hil : row.length = (inputsOf ns).length) (V : Nat → Bool) (hV : IsVal ns (fun i => row.getD i false) V) :
    Calls Try.prog 30 #[.pointer (some ⟨r, 0, none⟩), v, vi] w fun e w' => ∃ vo, e = .returned (.tuple #[vo, .int .i64 0]) ∧ SL.St w0 (Arr (cInt .i8) 72 vo (fillV V (coneM ns roots)) :: RGraph r (rnodes ns) (inputsOf ns).length :: l) w' := by
  have hmem := (coneM_lined hw roots hx).1.mem
  have hcw := rCone_walk w0 w l r _ ns h hw (by omega) v roots hr hx
  have hFM : fillV V (coneM ns roots) = (coneM ns roots).map fun n => sgn (V n) := rfl
  generalize fillV V (coneM ns roots) = FM at *
  generalize coneM ns roots = K at *
  have HFM := Lib.hid hFM; clear hFM
  obtain ⟨Ai, ci, hvi, hmi, -⟩ := hri.use h.drop
  subst hvi
  have hne : ((row.length : Int) != ((inputsOf ns).length : Int)) = false := by rw [hil]; simp
  have HM := Lib.hid hmem; have HX := Lib.hid hx; have HIL := Lib.hid hil; have HVV := Lib.hid hV
  clear hmem hx hil hV
  go_enter Try.func30, Try.ntmps30
  go_wp2_with (go_at_call 29; refine hcw.mono ?_; rintro e w1 ⟨vc, rfl, h1⟩; have g1 : w1.cell? ⟨r, 1, none⟩ = some (.int .i64 ((inputsOf ns).length : Nat)) := (rg_slice (h1.pull 1)).choose_spec.choose_spec.2)
  have hvw := rValues_walk w0 w1 _ r _ ns h1.swap hw hwi (by omega) (.slice Ai row.length ci) row (Ent.tail hri) HIL.out V HVV.out
  refine hvw.mono ?_
  rintro e w2 ⟨vv, rfl, h2⟩
  obtain ⟨Av, cv, hv, -, -⟩ := h2.rd
  rw [List.length_map, List.length_range] at hv
  subst hv
  obtain ⟨Ac, cc, rfl, hmc, -⟩ := (h2.pull 2).rd
  unfold maxLen at hmc
  clear h1 hcw hvw hne g1
  go_wp2_with fail
  go_loopg [11, 12] K.length (fun k vo i wr => ∃ j : Nat, j ≤ K.length ∧ k = K.length - j ∧ i = .int .i64 j ∧ SL.St w0 (Arr (cInt .i8) 72 vo ((K.take j).map fun n => sgn (V n)) :: Arr cBool 4 (.slice Av ns.length cv) ((List.range ns.length).map V) :: RGraph r (rnodes ns) (inputsOf ns).length :: Arr (cNat .i64) 3 (.slice Ac K.length cc) K :: l) wr)
  case atStart => exact ⟨0, Nat.zero_le _, rfl, rfl, h2.rows_nil (cInt .i8) 72⟩
  case round =>
    clear h2
    obtain ⟨j, hj, hgk, rfl, hsr⟩ := hrel
    subst hgk
    obtain ⟨Ao, co, rfl, -, -⟩ := hsr.rd
    by_cases hlt : j < K.length
    · obtain ⟨A', c', hv, -, hc⟩ := (hsr.pull 3).rd
      obtain ⟨ad, hA', hcell⟩ := rd_at hc j hlt
      obtain rfl : Ac = some ad := by
        have : A' = Ac := by injection hv with h1; exact h1.symm
        rw [← this]; exact hA'
      have hmj := (HM.out _ (List.getElem_mem hlt)).2
      have HT := Lib.hid (show (K.take (j + 1)).map (fun n => sgn (V n)) = (K.take j).map (fun n => sgn (V n)) ++ [sgn (V K[j])] by rw [List.take_succ_eq_append_getElem hlt, List.map_append]; rfl)
      have HLJ := Lib.hid (show ((K.take j).map (fun n => sgn (V n))).length = j by simp; omega)
      clear hc hv hA'
      generalize (K.take j).map (fun n => sgn (V n)) = os at *
      generalize K[j] = n at *
      obtain ⟨A', c', hv, -, hc⟩ := (hsr.pull 1).rd
      obtain ⟨vd, hA', hcell2⟩ := rd_at_bool hc n (by simp; exact hmj)
      obtain rfl : Av = some vd := by
        have : A' = Av := by injection hv with h1; exact h1.symm
        rw [← this]; exact hA'
      have hbv : ((List.range ns.length).map V)[n]'(by simp; exact hmj) = V n := by simp
      rw [hbv] at hcell2
      clear hc hv hA' hbv
      generalize V n = b at *
      cases b with
      | true =>
        have hsa := hsr.alloc (.cells #[.int .i8 1] 72)
        go_wp2_with (at_builtin; go_loud (refine wpList_app rfl _ _ rfl Try.underlying50 infoI8 rfl (hsa.pull 1) rfl (ys := [1]) rfl (hsa.rd_blk (ys := [1]) 1 1 rfl rfl (by decide)) (by have := HLJ.out; simp; omega) (by have := HLJ.out; simp; omega) ?_); intro vo' w7 hs7)
        go_roundg (K.length - (j + 1))
        case measure => omega
        case rel => exact ⟨j + 1, by omega, rfl, by go_num, by rw [HT.out]; exact hs7.sel [0, 2, 3, 4] 1⟩
      | false =>
        have hsa := hsr.alloc (.cells #[.int .i8 (-1)] 72)
        go_wp2_with (at_builtin; go_loud (refine wpList_app rfl _ _ rfl Try.underlying50 infoI8 rfl (hsa.pull 1) rfl (ys := [-1]) rfl (hsa.rd_blk (ys := [-1]) 1 1 rfl rfl (by decide)) (by have := HLJ.out; simp; omega) (by have := HLJ.out; simp; omega) ?_); intro vo' w7 hs7)
        go_roundg (K.length - (j + 1))
        case measure => omega
        case rel => exact ⟨j + 1, by omega, rfl, by go_num, by rw [HT.out]; exact hs7.sel [0, 2, 3, 4] 1⟩
    · obtain rfl : j = K.length := by omega
      have he := Lib.hid (show FM = (K.take K.length).map (fun n => sgn (V n)) by rw [List.take_length]; exact HFM.out)
      go_wp2_with fail
      go_ret2
      refine ⟨_, rfl, ?_⟩
      rw [he.out]
      exact ((hsr.sel [0, 2] 2))
end Go.Proofs.Ytjeopmiopinlgaa
