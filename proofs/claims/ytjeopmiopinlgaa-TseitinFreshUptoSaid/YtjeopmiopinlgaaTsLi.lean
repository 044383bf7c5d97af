/- TseitinLifts: every Lift and Fill. -/
import Derived.Test.YtjeopmiopinlgaaTsE
import Derived.Test.YtjeopmiopinlgaaTsW
import Derived.Test.YtjeopmiopinlgaaTsRL
import Derived.Test.YtjeopmiopinlgaaTsFew
import Derived.Test.YtjeopmiopinlgaaTsBack
/- The reference's Fill. -/
set_option linter.unusedVariables false
set_option linter.unusedSimpArgs false
namespace Go.Proofs.Ytjeopmiopinlgaa
open Go Go.RowKit SL

theorem rFill_nil (w : World) (v vi : Value) :
    Calls Try.prog 30 #[.pointer none, v, vi] w fun e w' => w = w' ∧ e = .returned (.tuple #[.slice none 0 0, .int .i64 2]) := by
  go_enter Try.func30, Try.ntmps30
  go_wp2_with fail
  go_ret2
  exact ⟨rfl, rfl⟩
theorem rFill_bad (w0 w : World) (l : List HP) (r N : Nat) (ns : Nodes) (h : SL.St w0 (RGraph r (rnodes ns) N :: l) w) (v vi : Value) (roots : List Nat) (hr : Ent l (Rd (cNat .u32) v roots)) (hxb : ∀ y ∈ roots, y < 4294967296) (hx : ¬ ∀ y ∈ roots, y < 2 * ns.length) :
    Calls Try.prog 30 #[.pointer (some ⟨r, 0, none⟩), v, vi] w fun e w' => e = .returned (.tuple #[.slice none 0 0, .int .i64 100]) ∧ SL.St w0 (RGraph r (rnodes ns) N :: l) w' := by
  have hcw := rCone_bad w0 w l r N ns h v roots hr hxb hx
  clear hx
  go_enter Try.func30, Try.ntmps30
  go_wp2_with (go_at_call 29; refine hcw.mono ?_; rintro e w1 ⟨rfl, h1⟩)
  go_ret2
  exact ⟨rfl, h1⟩
theorem rFill_arg (w0 w : World) (l : List HP) (r N : Nat) (ns : Nodes) (h : SL.St w0 (RGraph r (rnodes ns) N :: l) w) (hw : Wf ns) (hl : ns.length ≤ 1073741824) (v vi : Value) (roots : List Nat) (hr : Ent l (Rd (cNat .u32) v roots)) (hx : ∀ y ∈ roots, y < 2 * ns.length) (row : List Bool) (hri : Ent l (Rd cBool vi row)) (hil : row.length ≠ N) :
    Calls Try.prog 30 #[.pointer (some ⟨r, 0, none⟩), v, vi] w fun e w' => e = .returned (.tuple #[.slice none 0 0, .int .i64 1]) ∧ SL.St w0 (RGraph r (rnodes ns) N :: l) w' := by
  have hcw := rCone_walk w0 w l r N ns h hw hl v roots hr hx
  obtain ⟨Ai, ci, hvi, hmi, -⟩ := hri.use h.drop
  subst hvi
  have hne : ((row.length : Int) != (N : Int)) = true := by simp; omega
  clear hil
  go_enter Try.func30, Try.ntmps30
  go_wp2_with (go_at_call 29; refine hcw.mono ?_; rintro e w1 ⟨vc, rfl, h1⟩; have g1 : w1.cell? ⟨r, 1, none⟩ = some (.int .i64 (N : Nat)) := (rg_slice (h1.pull 1)).choose_spec.choose_spec.2)
  go_ret2
  exact ⟨rfl, h1.drop⟩

set_option maxRecDepth 100000 in
set_option maxHeartbeats 8000000 in
theorem rFill_walk (w0 w : World) (l : List HP) (r : Nat) (ns : Nodes) (h : SL.St w0 (RGraph r (rnodes ns) (inputsOf ns).length :: l) w) (hw : Wf ns) (hwi : WfIn ns) (hl : ns.length ≤ 1048577) (v vi : Value) (roots : List Nat) (hr : Ent l (Rd (cNat .u32) v roots)) (hx : ∀ y ∈ roots, y < 2 * ns.length) (hKl : (coneM ns roots).length ≤ 1048576)
    (row : List Bool) (hri : Ent l (Rd cBool vi row)) (hil : row.length = (inputsOf ns).length) (V : Nat → Bool) (hV : IsVal ns (fun i => row.getD i false) V) :
    Calls Try.prog 30 #[.pointer (some ⟨r, 0, none⟩), v, vi] w fun e w' => ∃ vo, e = .returned (.tuple #[vo, .int .i64 0]) ∧ SL.St w0 (Arr (cInt .i8) 72 vo (fillV V (coneM ns roots)) :: RGraph r (rnodes ns) (inputsOf ns).length :: l) w' := by
  have hmem := (coneM_lined hw roots hx).1.mem
  have hcw := rCone_walk w0 w l r _ ns h hw (by omega) v roots hr hx
  have hFM : fillV V (coneM ns roots) = (coneM ns roots).map fun n => sgn (V n) := rfl
  generalize fillV V (coneM ns roots) = FM at *
  generalize coneM ns roots = K at *
  have HFM := Lib.hid hFM; clear hFM
  obtain ⟨Ai, ci, hvi, hmi, -⟩ := hri.use h.drop
  subst hvi
  have hne : ((row.length : Int) != ((inputsOf ns).length : Int)) = false := by rw [hil]; simp
  have HM := Lib.hid hmem; have HX := Lib.hid hx; have HIL := Lib.hid hil; have HVV := Lib.hid hV
  clear hmem hx hil hV
  go_enter Try.func30, Try.ntmps30
  go_wp2_with (go_at_call 29; refine hcw.mono ?_; rintro e w1 ⟨vc, rfl, h1⟩; have g1 : w1.cell? ⟨r, 1, none⟩ = some (.int .i64 ((inputsOf ns).length : Nat)) := (rg_slice (h1.pull 1)).choose_spec.choose_spec.2)
  have hvw := rValues_walk w0 w1 _ r _ ns h1.swap hw hwi (by omega) (.slice Ai row.length ci) row (Ent.tail hri) HIL.out V HVV.out
  refine hvw.mono ?_
  rintro e w2 ⟨vv, rfl, h2⟩
  obtain ⟨Av, cv, hv, -, -⟩ := h2.rd
  rw [List.length_map, List.length_range] at hv
  subst hv
  obtain ⟨Ac, cc, rfl, hmc, -⟩ := (h2.pull 2).rd
  unfold maxLen at hmc
  clear h1 hcw hvw hne g1
  go_wp2_with fail
  go_loopg [11, 12] K.length (fun k vo i wr => ∃ j : Nat, j ≤ K.length ∧ k = K.length - j ∧ i = .int .i64 j ∧ SL.St w0 (Arr (cInt .i8) 72 vo ((K.take j).map fun n => sgn (V n)) :: Arr cBool 4 (.slice Av ns.length cv) ((List.range ns.length).map V) :: RGraph r (rnodes ns) (inputsOf ns).length :: Arr (cNat .i64) 3 (.slice Ac K.length cc) K :: l) wr)
  case atStart => exact ⟨0, Nat.zero_le _, rfl, rfl, h2.rows_nil (cInt .i8) 72⟩
  case round =>
    clear h2
    obtain ⟨j, hj, hgk, rfl, hsr⟩ := hrel
    subst hgk
    obtain ⟨Ao, co, rfl, -, -⟩ := hsr.rd
    by_cases hlt : j < K.length
    · obtain ⟨A', c', hv, -, hc⟩ := (hsr.pull 3).rd
      obtain ⟨ad, hA', hcell⟩ := rd_at hc j hlt
      obtain rfl : Ac = some ad := by
        have : A' = Ac := by injection hv with h1; exact h1.symm
        rw [← this]; exact hA'
      have hmj := (HM.out _ (List.getElem_mem hlt)).2
      have HT := Lib.hid (show (K.take (j + 1)).map (fun n => sgn (V n)) = (K.take j).map (fun n => sgn (V n)) ++ [sgn (V K[j])] by rw [List.take_succ_eq_append_getElem hlt, List.map_append]; rfl)
      have HLJ := Lib.hid (show ((K.take j).map (fun n => sgn (V n))).length = j by simp; omega)
      clear hc hv hA'
      generalize (K.take j).map (fun n => sgn (V n)) = os at *
      generalize K[j] = n at *
      obtain ⟨A', c', hv, -, hc⟩ := (hsr.pull 1).rd
      obtain ⟨vd, hA', hcell2⟩ := rd_at_bool hc n (by simp; exact hmj)
      obtain rfl : Av = some vd := by
        have : A' = Av := by injection hv with h1; exact h1.symm
        rw [← this]; exact hA'
      have hbv : ((List.range ns.length).map V)[n]'(by simp; exact hmj) = V n := by simp
      rw [hbv] at hcell2
      clear hc hv hA' hbv
      generalize V n = b at *
      cases b with
      | true =>
        have hsa := hsr.alloc (.cells #[.int .i8 1] 72)
        go_wp2_with (at_builtin; go_loud (refine wpList_app rfl _ _ rfl Try.underlying50 infoI8 rfl (hsa.pull 1) rfl (ys := [1]) rfl (hsa.rd_blk (ys := [1]) 1 1 rfl rfl (by decide)) (by have := HLJ.out; simp; omega) (by have := HLJ.out; simp; omega) ?_); intro vo' w7 hs7)
        go_roundg (K.length - (j + 1))
        case measure => omega
        case rel => exact ⟨j + 1, by omega, rfl, by go_num, by rw [HT.out]; exact hs7.sel [0, 2, 3, 4] 1⟩
      | false =>
        have hsa := hsr.alloc (.cells #[.int .i8 (-1)] 72)
        go_wp2_with (at_builtin; go_loud (refine wpList_app rfl _ _ rfl Try.underlying50 infoI8 rfl (hsa.pull 1) rfl (ys := [-1]) rfl (hsa.rd_blk (ys := [-1]) 1 1 rfl rfl (by decide)) (by have := HLJ.out; simp; omega) (by have := HLJ.out; simp; omega) ?_); intro vo' w7 hs7)
        go_roundg (K.length - (j + 1))
        case measure => omega
        case rel => exact ⟨j + 1, by omega, rfl, by go_num, by rw [HT.out]; exact hs7.sel [0, 2, 3, 4] 1⟩
    · obtain rfl : j = K.length := by omega
      have he := Lib.hid (show FM = (K.take K.length).map (fun n => sgn (V n)) by rw [List.take_length]; exact HFM.out)
      go_wp2_with fail
      go_ret2
      refine ⟨_, rfl, ?_⟩
      rw [he.out]
      exact ((hsr.sel [0, 2] 2))
end Go.Proofs.Ytjeopmiopinlgaa
set_option linter.unusedVariables false
set_option linter.unusedSimpArgs false
namespace Go.Proofs.Ytjeopmiopinlgaa
open Go Go.RowKit SL

open Classical in
noncomputable def liftR (ns : Nodes) (K m : List Int) : List Bool × Int := if inGraph ns K then (liftM ns K m, 0) else ([], 100)
def Good (ns : Nodes) (roots : List Nat) : Prop := ∀ y ∈ roots, y < 2 * ns.length
open Classical in
noncomputable def coneR (ns : Nodes) (roots : List Nat) : List Nat × Int := if Good ns roots then (coneM ns roots, 0) else ([], 100)
open Classical in
noncomputable def fillR (ns : Nodes) (roots : List Nat) (row : List Bool) : List Int × Int := if Good ns roots then (if row.length = (inputsOf ns).length then (fillM ns row roots, 0) else ([], 1)) else ([], 100)

theorem Lift_any (w0 w : World) (l : List HP) (g : Nat) (ns : Nodes) (h : SL.St w0 (Graph g ns :: l) w) (hwi : WfIn ns) (hl : ns.length ≤ 1048577) (vc vm : Value) (K m : List Int) (hk : Ent l (Rd (cInt .i64) vc K)) (hkb : ∀ n ∈ K, In64' n) (hm : Ent l (Rd (cInt .i8) vm m)) :
    Calls Try.prog 26 #[.pointer (some ⟨g, 0, none⟩), vc, vm] w fun e w' => ∃ vo, e = .returned (.tuple #[vo, .int .i64 (liftR ns K m).2]) ∧ SL.St w0 (Arr cBool 4 vo (liftR ns K m).1 :: Graph g ns :: l) w' := by
  unfold liftR
  by_cases hx : inGraph ns K
  · rw [if_pos hx]; exact Lift_walk w0 w l g ns h hwi hl vc vm K m hk hm hx
  · rw [if_neg hx]
    refine (Lift_bad w0 w l g ns h hl vc vm K hk hkb hx).mono ?_
    rintro e w' ⟨rfl, h2⟩
    exact ⟨_, rfl, h2.rows_nil cBool 4⟩
theorem rLift_any (w0 w : World) (l : List HP) (r : Nat) (ns : Nodes) (h : SL.St w0 (RGraph r (rnodes ns) (inputsOf ns).length :: l) w) (hwi : WfIn ns) (hl : ns.length ≤ 1048577) (vc vm : Value) (K m : List Int) (hk : Ent l (Rd (cInt .i64) vc K)) (hkb : ∀ n ∈ K, In64' n) (hm : Ent l (Rd (cInt .i8) vm m)) :
    Calls Try.prog 27 #[.pointer (some ⟨r, 0, none⟩), vc, vm] w fun e w' => ∃ vo, e = .returned (.tuple #[vo, .int .i64 (liftR ns K m).2]) ∧ SL.St w0 (Arr cBool 4 vo (liftR ns K m).1 :: RGraph r (rnodes ns) (inputsOf ns).length :: l) w' := by
  unfold liftR
  by_cases hx : inGraph ns K
  · rw [if_pos hx]; exact rLift_walk w0 w l r ns h hwi hl vc vm K m hk hm hx
  · rw [if_neg hx]
    refine (rLift_bad w0 w l r _ ns h hl vc vm K hk hkb hx).mono ?_
    rintro e w' ⟨rfl, h2⟩
    exact ⟨_, rfl, h2.rows_nil cBool 4⟩
theorem rCone_any (w0 w : World) (l : List HP) (r N : Nat) (ns : Nodes) (h : SL.St w0 (RGraph r (rnodes ns) N :: l) w) (hw : Wf ns) (hlen : ns.length ≤ 1073741824) (v : Value) (roots : List Nat) (hr : Ent l (Rd (cNat .u32) v roots)) (hxb : ∀ y ∈ roots, y < 4294967296) :
    Calls Try.prog 29 #[.pointer (some ⟨r, 0, none⟩), v] w fun e w' => ∃ vo, e = .returned (.tuple #[vo, .int .i64 (coneR ns roots).2]) ∧ SL.St w0 (Arr (cNat .i64) 3 vo (coneR ns roots).1 :: RGraph r (rnodes ns) N :: l) w' := by
  unfold coneR
  by_cases hx : Good ns roots
  · rw [if_pos hx]; exact rCone_walk w0 w l r N ns h hw hlen v roots hr hx
  · rw [if_neg hx]
    refine (rCone_bad w0 w l r N ns h v roots hr hxb hx).mono ?_
    rintro e w' ⟨rfl, h2⟩
    exact ⟨_, rfl, h2.rows_nil (cNat .i64) 3⟩
theorem Fill_any (w0 w : World) (l : List HP) (g : Nat) (ns : Nodes) (h : SL.St w0 (Graph g ns :: l) w) (hgd : GoodG ns) (hl : ns.length ≤ 1048577) (v vi : Value) (roots : List Nat) (hr : Ent l (Rd (cNat .u32) v roots)) (hxb : ∀ y ∈ roots, y < 4294967296) (row : List Bool) (hri : Ent l (Rd cBool vi row)) :
    Calls Try.prog 21 #[.pointer (some ⟨g, 0, none⟩), v, vi] w fun e w' => ∃ vo, e = .returned (.tuple #[vo, .int .i64 (fillR ns roots row).2]) ∧ SL.St w0 (Arr (cInt .i8) 72 vo (fillR ns roots row).1 :: Graph g ns :: l) w' := by
  unfold fillR
  by_cases hx : Good ns roots
  · rw [if_pos hx]
    have hk := coneM_length ns roots hgd.pos
    by_cases hil : row.length = (inputsOf ns).length
    · rw [if_pos hil]; exact Fill_walk w0 w l g ns h hgd.wf hgd.wfIn hl v vi roots hr hx (by omega) row hri hil
    · rw [if_neg hil]
      refine (Fill_arg w0 w l g ns h hgd.wf (by omega) v vi roots hr hx row hri hil).mono ?_
      rintro e w' ⟨rfl, h2⟩
      exact ⟨_, rfl, h2.rows_nil (cInt .i8) 72⟩
  · rw [if_neg hx]
    refine (Fill_bad w0 w l g ns h (by omega) v vi roots hr hxb hx).mono ?_
    rintro e w' ⟨rfl, h2⟩
    exact ⟨_, rfl, h2.rows_nil (cInt .i8) 72⟩
theorem rFill_any (w0 w : World) (l : List HP) (r : Nat) (ns : Nodes) (h : SL.St w0 (RGraph r (rnodes ns) (inputsOf ns).length :: l) w) (hgd : GoodG ns) (hl : ns.length ≤ 1048577) (v vi : Value) (roots : List Nat) (hr : Ent l (Rd (cNat .u32) v roots)) (hxb : ∀ y ∈ roots, y < 4294967296) (row : List Bool) (hri : Ent l (Rd cBool vi row)) :
    Calls Try.prog 30 #[.pointer (some ⟨r, 0, none⟩), v, vi] w fun e w' => ∃ vo, e = .returned (.tuple #[vo, .int .i64 (fillR ns roots row).2]) ∧ SL.St w0 (Arr (cInt .i8) 72 vo (fillR ns roots row).1 :: RGraph r (rnodes ns) (inputsOf ns).length :: l) w' := by
  unfold fillR
  by_cases hx : Good ns roots
  · rw [if_pos hx]
    have hk := coneM_length ns roots hgd.pos
    by_cases hil : row.length = (inputsOf ns).length
    · rw [if_pos hil]
      obtain ⟨V, hV⟩ := exists_val hgd.wf (fun i => row.getD i false)
      have := rFill_walk w0 w l r ns h hgd.wf hgd.wfIn hl v vi roots hr hx (by omega) row hri hil V hV
      rw [← fillM_val hgd hx hV] at this
      exact this
    · rw [if_neg hil]
      refine (rFill_arg w0 w l r _ ns h hgd.wf (by omega) v vi roots hr hx row hri hil).mono ?_
      rintro e w' ⟨rfl, h2⟩
      exact ⟨_, rfl, h2.rows_nil (cInt .i8) 72⟩
  · rw [if_neg hx]
    refine (rFill_bad w0 w l r _ ns h v vi roots hr hxb hx).mono ?_
    rintro e w' ⟨rfl, h2⟩
    exact ⟨_, rfl, h2.rows_nil (cInt .i8) 72⟩
theorem liftR_err (ns : Nodes) (K m : List Int) : In64' (liftR ns K m).2 := by unfold liftR In64'; split <;> simp
theorem fillR_err (ns : Nodes) (roots : List Nat) (row : List Bool) : In64' (fillR ns roots row).2 := by
  unfold fillR In64'; split
  · split <;> simp
  · simp

set_option maxRecDepth 100000 in
set_option maxHeartbeats 8000000 in
theorem lifts_walk (W : World) (vs vw vo0 vk vm vi : Value) (script : List Mk3) (which : List Int) (odd : List Nat) (K m : List Int) (inn : List Bool) (hr : Ent [Old W] (Rd cMade3 vs script)) (hin : ∀ s ∈ script, MkIn3 s) (hw : Ent [Old W] (Rd (cInt .i64) vw which)) (hwi : ∀ i ∈ which, In64' i) (ho : Ent [Old W] (Rd (cNat .u32) vo0 odd)) (hob : ∀ y ∈ odd, y < 4294967296)
    (hk : Ent [Old W] (Rd (cInt .i64) vk K)) (hkb : ∀ n ∈ K, In64' n) (hm : Ent [Old W] (Rd (cInt .i8) vm m)) (hmb : ∀ x ∈ m, -128 ≤ x ∧ x ≤ 127) (hi : Ent [Old W] (Rd cBool vi inn)) (hsz : 4 * script.length + 1 * which.length + 1 * odd.length ≤ 1048576) :
    Calls Try.prog 7 #[vs, vw, vo0, vk, vm, vi] W fun e w' => e = .returned (.bool true) ∧ SL.St W [Old W] w' := by
  have h := SL.St.start W
  have ok := madeT_ok script (by omega)
  go_enter Try.func7, Try.ntmps7
  go_wp2_with fail
  refine (made_t W W _ h vs script hr hin (by omega)).mono ?_
  rintro e w1 ⟨g, r, vo, rfl, h1⟩
  have hrl := someM_length (madeT script).2 which odd
  have hsl := ok.small; have hgd := ok.good; have hlen := ok.len; have hlits := ok.lits
  have hxb : ∀ y ∈ someM (madeT script).2 which odd, y < 4294967296 := by
    intro y hy
    rcases List.mem_append.1 hy with h1 | h1
    · obtain ⟨i, -, rfl⟩ := List.mem_map.1 h1
      have := pickM_lt (by have := ok.len; omega) ok.lits i
      omega
    · exact hob y h1
  generalize madeT script = p at *
  obtain ⟨ns, ls⟩ := p
  simp only at *
  go_wp2_with fail
  refine (live_walk W w1 _ h1).mono ?_
  rintro e w2 ⟨rfl, h2⟩
  clear h h1
  go_wp2_with fail
  refine (some_walk W w2 _ h2 vo vw vo0 ls which odd Ent.rd (Ent.tail (Ent.tail (Ent.tail hw))) (Ent.tail (Ent.tail (Ent.tail ho))) (fun y hy => by have := hlits y hy; omega) (by omega) (by omega) hwi (by omega) (by omega)).mono ?_
  rintro e w3 ⟨vr, rfl, h3⟩
  clear h2
  generalize someM ls which odd = roots at *
  have h4 : SL.St W (Graph g ns :: RGraph r (rnodes ns) (inputsOf ns).length :: Arr (cNat .u32) 42 vr roots :: [Old W]) w3 := h3.sel [2, 3, 0] 1
  clear h3
  have e1 := liftR_err ns K m
  have e2 := liftR_err ns ((coneR ns roots).1.map Int.ofNat) m
  have e3 := fillR_err ns roots inn
  have hcb : ∀ n ∈ (coneR ns roots).1.map Int.ofNat, In64' n := by
    intro n hn
    obtain ⟨k, hk, rfl⟩ := List.mem_map.1 hn
    unfold coneR at hk
    split at hk
    · rename_i hg
      have := ((coneM_lined hgd.wf roots hg).1.mem k hk).2
      unfold In64'; exact ⟨by have := Int.natCast_nonneg k; show (-9223372036854775808 : Int) ≤ (k : Int); omega, by show (k : Int) ≤ _; omega⟩
    · cases hk
  have L1 := Lift_any W w3 _ g ns h4 hgd.wfIn (by omega) vk vm K m (Ent.tail (Ent.tail hk)) hkb (Ent.tail (Ent.tail hm))
  have L2 := fun w4 l4 h5 => rLift_any W w4 l4 r ns h5 hgd.wfIn (by omega) vk vm K m
  go_wp2_with fail
  refine L1.mono ?_
  rintro e w4 ⟨v1, rfl, h5⟩
  have h6 : SL.St W (RGraph r (rnodes ns) (inputsOf ns).length :: Arr cBool 4 v1 (liftR ns K m).1 :: Graph g ns :: Arr (cNat .u32) 42 vr roots :: [Old W]) w4 := h5.sel [2, 0, 1]
  clear L1 h4 h5
  have L3 := L2 w4 _ h6 (Ent.tail (Ent.tail (Ent.tail hk))) hkb (Ent.tail (Ent.tail (Ent.tail hm)))
  go_wp2_with fail
  refine L3.mono ?_
  rintro e w5 ⟨v2, rfl, h7⟩
  clear L2 L3 h6
  generalize liftR ns K m = R1 at *
  obtain ⟨x1, er1⟩ := R1
  simp only at e1 h7 ⊢
  obtain ⟨e1a, e1b⟩ := e1
  have d1 : (er1 != er1) = false := by simp
  have SB := sameBools_walk W w5 _ h7 v2 v1 x1 x1 Ent.rd (Ent.tail (Ent.tail Ent.rd))
  have SB2 := sameBools_walk W w5 _ h7 v1 v2 x1 x1 (Ent.tail (Ent.tail Ent.rd)) Ent.rd
  rw [decide_eq_true rfl] at SB SB2
  have nw := fun (er : Int) (h1 : -9223372036854775808 ≤ er) (h2 : er ≤ 9223372036854775807) w => no_walk w er h1 h2
  go_wp2_with (first | (go_at_call 14; refine (nw _ e1a e1b _).mono ?_; rintro e w' ⟨rfl, rfl⟩) | (go_at_call 28; refine SB2.mono ?_; rintro e w6 ⟨rfl, h8⟩))
  clear SB SB2 h7
  have h9 : SL.St W (RGraph r (rnodes ns) (inputsOf ns).length :: Graph g ns :: Arr (cNat .u32) 42 vr roots :: [Old W]) w6 := h8.sel [1, 3, 4] 2
  clear h8
  have C1 := rCone_any W w6 _ r _ ns h9 hgd.wf (by omega) vr roots (Ent.tail Ent.rd) hxb
  refine C1.mono ?_
  rintro e w7 ⟨vown, rfl, hA⟩
  clear C1 h9
  have hB : SL.St W (Graph g ns :: Arr (cNat .i64) 3 vown (coneR ns roots).1 :: RGraph r (rnodes ns) (inputsOf ns).length :: Arr (cNat .u32) 42 vr roots :: [Old W]) w7 := hA.sel [2, 0, 1]
  clear hA
  have L4 := Lift_any W w7 _ g ns hB hgd.wfIn (by omega) vown vm ((coneR ns roots).1.map Int.ofNat) m (fun _ _ s => rd_nat_int s.rd) hcb (Ent.tail (Ent.tail (Ent.tail hm)))
  go_wp2_with fail
  refine L4.mono ?_
  rintro e w8 ⟨v3, rfl, hC⟩
  clear L4 hB
  have hD : SL.St W (RGraph r (rnodes ns) (inputsOf ns).length :: Arr cBool 4 v3 (liftR ns ((coneR ns roots).1.map Int.ofNat) m).1 :: Graph g ns :: Arr (cNat .i64) 3 vown (coneR ns roots).1 :: Arr (cNat .u32) 42 vr roots :: [Old W]) w8 := hC.sel [3, 0, 1, 2]
  clear hC
  have L5 := rLift_any W w8 _ r ns hD hgd.wfIn (by omega) vown vm ((coneR ns roots).1.map Int.ofNat) m (Ent.tail (Ent.tail (fun _ _ s => rd_nat_int s.rd))) hcb (Ent.tail (Ent.tail (Ent.tail (Ent.tail hm))))
  go_wp2_with fail
  refine L5.mono ?_
  rintro e w9 ⟨v4, rfl, hE⟩
  clear L5 hD
  generalize liftR ns ((coneR ns roots).1.map Int.ofNat) m = R2 at *
  obtain ⟨x2, er2⟩ := R2
  simp only at e2 hE ⊢
  obtain ⟨e2a, e2b⟩ := e2
  have d2 : (er2 != er2) = false := by simp
  have SB2 := sameBools_walk W w9 _ hE v3 v4 x2 x2 (Ent.tail (Ent.tail Ent.rd)) Ent.rd
  rw [decide_eq_true rfl] at SB2
  go_wp2_with (first | (go_at_call 14; refine (nw _ e2a e2b _).mono ?_; rintro e w' ⟨rfl, rfl⟩) | (go_at_call 28; refine SB2.mono ?_; rintro e wA ⟨rfl, hF⟩))
  clear SB2 hE
  have hG : SL.St W (Graph g ns :: RGraph r (rnodes ns) (inputsOf ns).length :: Arr (cNat .u32) 42 vr roots :: [Old W]) wA := hF.sel [3, 1, 5] 3
  clear hF
  have F1 := Fill_any W wA _ g ns hG hgd (by omega) vr vi roots (Ent.tail Ent.rd) hxb inn (Ent.tail (Ent.tail hi))
  refine F1.mono ?_
  rintro e wB ⟨v5, rfl, hH⟩
  clear F1 hG
  have hI : SL.St W (RGraph r (rnodes ns) (inputsOf ns).length :: Arr (cInt .i8) 72 v5 (fillR ns roots inn).1 :: Graph g ns :: Arr (cNat .u32) 42 vr roots :: [Old W]) wB := hH.sel [2, 0, 1]
  clear hH
  have F2 := rFill_any W wB _ r ns hI hgd (by omega) vr vi roots (Ent.tail (Ent.tail Ent.rd)) hxb inn (Ent.tail (Ent.tail (Ent.tail hi)))
  go_wp2_with fail
  refine F2.mono ?_
  rintro e wC ⟨v6, rfl, hJ⟩
  clear F2 hI
  generalize fillR ns roots inn = R3 at *
  obtain ⟨x3, er3⟩ := R3
  simp only at e3 hJ ⊢
  obtain ⟨e3a, e3b⟩ := e3
  go_wp2_with fail
  refine (Lift_nil wC vk vm).mono ?_
  rintro e wD ⟨rfl, rfl⟩
  go_wp2_with fail
  refine (Fill_nil _ vr vi).mono ?_
  rintro e wD ⟨rfl, rfl⟩
  have d3 : (er3 == er3) = true := by simp
  have SR := sameRow_q _ v5 v6 x3 x3 (hJ.pull 2).rd hJ.rd
  rw [decide_eq_true rfl] at SR
  go_wp2_with (go_at_call 14; refine (nw _ e3a e3b _).mono ?_; rintro e w' ⟨rfl, rfl⟩)
  refine SR.mono ?_
  rintro e wE ⟨rfl, q, rfl⟩
  go_wp2_with (go_at_call 14; refine (no_walk _ 2 (by decide) (by decide)).mono ?_; rintro e w' ⟨rfl, rfl⟩)
  go_ret
  exact ⟨rfl, (SL.St.drewN hJ q).sel [5] 5⟩
end Go.Proofs.Ytjeopmiopinlgaa
