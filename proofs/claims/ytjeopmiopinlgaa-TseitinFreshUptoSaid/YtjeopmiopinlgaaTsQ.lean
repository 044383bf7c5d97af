/- Tseitin's Fill. -/
import Derived.Test.YtjeopmiopinlgaaTsF
import Derived.Test.YtjeopmiopinlgaaAigJ
set_option linter.unusedVariables false
set_option linter.unusedSimpArgs false
namespace Go.Proofs.Ytjeopmiopinlgaa
open Go Go.RowKit SL

theorem infoI8 : (Try.prog.info? 72).map (fun i => (i.zero, i.size, i.bytes)) = some (some (.int .i8 0), 1, 1) := by kernel_rfl
def sgn (b : Bool) : Int := if b then 1 else -1
def fillM (ns : Nodes) (row : List Bool) (roots : List Nat) : List Int := (evalM ns row ((coneM ns roots).map (2 * ·))).map sgn

theorem Fill_bad (w0 w : World) (l : List HP) (g : Nat) (ns : Nodes) (h : SL.St w0 (Graph g ns :: l) w) (hl : ns.length ≤ 1073741824) (v vi : Value) (roots : List Nat) (hr : Ent l (Rd (cNat .u32) v roots)) (hxb : ∀ y ∈ roots, y < 4294967296) (hx : ¬ ∀ y ∈ roots, y < 2 * ns.length) :
    Calls Try.prog 21 #[.pointer (some ⟨g, 0, none⟩), v, vi] w fun e w' => e = .returned (.tuple #[.slice none 0 0, .int .i64 100]) ∧ SL.St w0 (Graph g ns :: l) w' := by
  have hcw := tcone_bad w0 w l g ns h hl v roots hr hxb hx
  clear hx
  go_enter Try.func21, Try.ntmps21
  go_wp2_with (go_at_call 47; refine hcw.mono ?_; rintro e w1 ⟨rfl, h1⟩)
  go_ret2
  exact ⟨rfl, h1⟩
theorem Fill_nil (w : World) (v vi : Value) :
    Calls Try.prog 21 #[.pointer none, v, vi] w fun e w' => w = w' ∧ e = .returned (.tuple #[.slice none 0 0, .int .i64 2]) := by
  go_enter Try.func21, Try.ntmps21
  go_wp2_with (go_at_call 47; refine (tcone_nil _ _).mono ?_; rintro e w1 ⟨rfl, rfl⟩)
  go_ret2
  exact ⟨rfl, rfl⟩
theorem Fill_arg (w0 w : World) (l : List HP) (g : Nat) (ns : Nodes) (h : SL.St w0 (Graph g ns :: l) w) (hw : Wf ns) (hl : ns.length ≤ 1073741824) (v vi : Value) (roots : List Nat) (hr : Ent l (Rd (cNat .u32) v roots)) (hx : ∀ y ∈ roots, y < 2 * ns.length) (row : List Bool) (hri : Ent l (Rd cBool vi row)) (hil : row.length ≠ (inputsOf ns).length) :
    Calls Try.prog 21 #[.pointer (some ⟨g, 0, none⟩), v, vi] w fun e w' => e = .returned (.tuple #[.slice none 0 0, .int .i64 1]) ∧ SL.St w0 (Graph g ns :: l) w' := by
  have hcw := tcone_walk w0 w l g ns h hw hl v roots hr hx
  obtain ⟨Ai, ci, hvi, hmi, -⟩ := hri.use h.drop
  subst hvi
  have hne : ((row.length : Int) != ((inputsOf ns).length : Int)) = true := by simp; omega
  clear hil
  go_enter Try.func21, Try.ntmps21
  go_wp2_with (first | (go_at_call 47; refine hcw.mono ?_; rintro e w1 ⟨vc, vv, rfl, h1⟩) | (go_at_call 48; refine (Inputs_walk w0 _ _ g ns (h1.pull 2)).mono ?_; rintro e w' ⟨rfl, rfl⟩))
  go_ret2
  exact ⟨rfl, h1.sel [2] 2⟩

set_option maxRecDepth 100000 in
set_option maxHeartbeats 8000000 in
theorem Fill_walk (w0 w : World) (l : List HP) (g : Nat) (ns : Nodes) (h : SL.St w0 (Graph g ns :: l) w) (hw : Wf ns) (hwi : WfIn ns) (hl : ns.length ≤ 1048577) (v vi : Value) (roots : List Nat) (hr : Ent l (Rd (cNat .u32) v roots)) (hx : ∀ y ∈ roots, y < 2 * ns.length) (hKl : (coneM ns roots).length ≤ 1048576)
    (row : List Bool) (hri : Ent l (Rd cBool vi row)) (hil : row.length = (inputsOf ns).length) :
    Calls Try.prog 21 #[.pointer (some ⟨g, 0, none⟩), v, vi] w fun e w' => ∃ vo, e = .returned (.tuple #[vo, .int .i64 0]) ∧ SL.St w0 (Arr (cInt .i8) 72 vo (fillM ns row roots) :: Graph g ns :: l) w' := by
  have hmem := (coneM_lined hw roots hx).1.mem
  have hcw := tcone_walk w0 w l g ns h hw (by omega) v roots hr hx
  have hFM : fillM ns row roots = (evalM ns row ((coneM ns roots).map (2 * ·))).map sgn := rfl
  generalize fillM ns row roots = FM at *
  generalize coneM ns roots = K at *
  have HFM := Lib.hid hFM; clear hFM
  obtain ⟨Ai, ci, hvi, hmi, -⟩ := hri.use h.drop
  subst hvi
  have hne : ((row.length : Int) != ((inputsOf ns).length : Int)) = false := by rw [hil]; simp
  have hmk := run_make_cap (P := Try.prog) 24 42 (.int .u32 0) 4 Try.underlying24 infoU32 rfl .i64 .i64 K.length (by omega) (by omega)
  have hmk2 := run_make_cap (P := Try.prog) 50 72 (.int .i8 0) 1 Try.underlying50 infoI8 rfl .i64 .i64 K.length (by omega) (by omega)
  have HIL := Lib.hid hil; have HM := Lib.hid hmem; have HX := Lib.hid hx
  clear hil hmem hx
  go_enter Try.func21, Try.ntmps21
  go_wp2_with (first | (go_at_call 47; refine hcw.mono ?_; rintro e w1 ⟨vc, vv, rfl, h1⟩; obtain ⟨Ac, cc, rfl, hmc, -⟩ := h1.rd) | (go_at_call 48; refine (Inputs_walk w0 _ _ g ns (h1.pull 2)).mono ?_; rintro e w' ⟨rfl, rfl⟩))
  have h2 := (((SL.St.alloc h1 (.cells (madeCells #[Value.int .u32 0] K.length) 42)).arr_empty (d := cNat .u32) rfl (by unfold maxLen; omega))).sel [0, 1, 3] 1
  clear h1 hmk h hcw hne
  generalize w1.heap.size = ko at h2 ⊢
  generalize (World.alloc w1 _) = w5 at h2 ⊢
  go_loopg [11, 38] K.length (fun k vo i wr => ∃ j : Nat, j ≤ K.length ∧ k = K.length - j ∧ i = .int .i64 j ∧ SL.St w0 (Arr (cNat .u32) 42 vo ((K.take j).map (2 * ·)) :: Arr (cNat .i64) 3 (.slice Ac K.length cc) K :: Graph g ns :: l) wr)
  case atStart => exact ⟨0, Nat.zero_le _, rfl, rfl, h2⟩
  case round =>
    clear h2
    obtain ⟨j, hj, hgk, rfl, hsr⟩ := hrel
    subst hgk
    by_cases hlt : j < K.length
    · obtain ⟨A', c', hv, -, hc⟩ := (hsr.pull 1).rd
      obtain ⟨ad, hA', hcell⟩ := rd_at hc j hlt
      obtain rfl : Ac = some ad := by
        have : A' = Ac := by injection hv with h1; exact h1.symm
        rw [← this]; exact hA'
      have hmj := (HM.out _ (List.getElem_mem hlt)).2
      have HT := Lib.hid (show (K.take (j + 1)).map (2 * ·) = (K.take j).map (2 * ·) ++ [2 * K[j]] by rw [List.take_succ_eq_append_getElem hlt, List.map_append]; rfl)
      have HLJ := Lib.hid (show ((K.take j).map (2 * ·)).length = j by simp; omega)
      clear hc hv hA'
      generalize (K.take j).map (2 * ·) = os at *
      generalize K[j] = n at *
      have hw2 : (2 * (n : Int)) % 4294967296 = 2 * n := by omega
      obtain ⟨Ao, co, rfl, -, -⟩ := hsr.rd
      have hsa := hsr.alloc (.cells #[.int .u32 ((2 * n : Nat) : Int)] 42)
      rw [show ((2 * n : Nat) : Int) = 2 * (n : Int) by omega] at hsa
      go_wp2_with (at_builtin; go_loud (refine wpList_app rfl _ _ rfl Try.underlying24 infoU32 rfl (hsa.pull 1) rfl (ys := [2 * n]) rfl (hsa.rd_blk (ys := [2 * n]) 1 1 rfl (by simp [Cd.all, cNat]) (by decide)) (by have := HLJ.out; simp; omega) (by have := HLJ.out; simp; omega) ?_); intro vo' w7 hs7)
      go_roundg (K.length - (j + 1))
      case measure => omega
      case rel => exact ⟨j + 1, by omega, rfl, by go_num, by rw [HT.out]; exact hs7.sel [0, 2] 1⟩
    · obtain rfl : j = K.length := by omega
      rw [List.take_length] at hsr
      have hxs : ∀ y ∈ K.map (2 * ·), y < 2 * ns.length := by
        intro y hy; obtain ⟨n, hn, rfl⟩ := List.mem_map.1 hy; have := (HM.out n hn).2; omega
      have hev := Eval_walk w0 wr (Arr (cNat .u32) 42 _ (K.map (2 * ·)) :: Arr (cNat .i64) 3 (.slice Ac K.length cc) K :: l) g ns (hsr.sel [2, 0, 1]) hw hwi (by omega) _ row (Ent.tail (Ent.tail hri)) HIL.out _ (K.map (2 * ·)) Ent.rd hxs (by simp; omega)
      have hel : (evalM ns row (K.map (2 * ·))).length = K.length := by simp [evalM, simM]
      generalize evalM ns row (K.map (2 * ·)) = ev at *
      go_wp2_with fail
      refine hev.mono ?_
      rintro e w2 ⟨ve, rfl, h3⟩
      obtain ⟨Ae, ce, hv, hme, -⟩ := h3.rd
      rw [hel] at hv
      subst hv
      have h4 := ((SL.St.alloc h3 (.cells (madeCells #[Value.int .i8 0] K.length) 72)).arr_empty (d := cInt .i8) rfl (by unfold maxLen; omega)).sel [0, 1, 2] 2
      have HEL := Lib.hid hel
      clear hev hsr hxs hel h3
      go_wp2_with fail
      generalize w2.heap.size = ko2 at h4 ⊢
      generalize (World.alloc w2 _) = w6 at h4 ⊢
      clear hmk2
      go_loopg [15, 64] K.length (fun k vo i wr => ∃ j : Nat, j ≤ K.length ∧ k = K.length - j ∧ i = .int .i64 j ∧ SL.St w0 (Arr (cInt .i8) 72 vo ((ev.take j).map sgn) :: Arr cBool 4 (.slice Ae K.length ce) ev :: Graph g ns :: l) wr)
      case atStart => exact ⟨0, Nat.zero_le _, rfl, rfl, h4⟩
      case round =>
        clear h4
        obtain ⟨j, hj, hgk, rfl, hsr⟩ := hrel
        subst hgk
        obtain ⟨Ao, co, rfl, -, -⟩ := hsr.rd
        by_cases hlt : j < K.length
        · have hlt2 : j < ev.length := by rw [HEL.out]; exact hlt
          obtain ⟨A', c', hv, -, hc⟩ := (hsr.pull 1).rd
          obtain ⟨ad, hA', hcell⟩ := rd_at_bool hc j hlt2
          obtain rfl : Ae = some ad := by
            have : A' = Ae := by injection hv with h1; exact h1.symm
            rw [← this]; exact hA'
          have HT := Lib.hid (show (ev.take (j + 1)).map sgn = (ev.take j).map sgn ++ [sgn ev[j]] by rw [List.take_succ_eq_append_getElem hlt2, List.map_append]; rfl)
          have HLJ := Lib.hid (show ((ev.take j).map sgn).length = j by simp; omega)
          clear hc hv hA'
          generalize (ev.take j).map sgn = os at *
          generalize ev[j] = b at *
          cases b with
          | true =>
            have hsa := hsr.alloc (.cells #[.int .i8 1] 72)
            go_wp2_with (at_builtin; go_loud (refine wpList_app rfl _ _ rfl Try.underlying50 infoI8 rfl (hsa.pull 1) rfl (ys := [1]) rfl (hsa.rd_blk (ys := [1]) 1 1 rfl rfl (by decide)) (by have := HLJ.out; simp; omega) (by have := HLJ.out; simp; omega) ?_); intro vo' w7 hs7)
            go_roundg (K.length - (j + 1))
            case measure => omega
            case rel => exact ⟨j + 1, by omega, rfl, by go_num, by rw [HT.out]; exact hs7.sel [0, 2, 3] 1⟩
          | false =>
            have hsa := hsr.alloc (.cells #[.int .i8 (-1)] 72)
            go_wp2_with (at_builtin; go_loud (refine wpList_app rfl _ _ rfl Try.underlying50 infoI8 rfl (hsa.pull 1) rfl (ys := [-1]) rfl (hsa.rd_blk (ys := [-1]) 1 1 rfl rfl (by decide)) (by have := HLJ.out; simp; omega) (by have := HLJ.out; simp; omega) ?_); intro vo' w7 hs7)
            go_roundg (K.length - (j + 1))
            case measure => omega
            case rel => exact ⟨j + 1, by omega, rfl, by go_num, by rw [HT.out]; exact hs7.sel [0, 2, 3] 1⟩
        · obtain rfl : j = K.length := by omega
          have he := Lib.hid (show FM = (ev.take K.length).map sgn by rw [List.take_of_length_le (by rw [HEL.out]; exact Nat.le_refl _)]; exact HFM.out)
          go_wp2_with fail
          go_ret2
          refine ⟨_, rfl, ?_⟩
          rw [he.out]
          exact hsr.sel [0, 2] 1
end Go.Proofs.Ytjeopmiopinlgaa
