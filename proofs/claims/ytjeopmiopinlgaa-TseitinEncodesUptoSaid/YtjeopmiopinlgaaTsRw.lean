/- Encode and Polar, whatever is asked. -/
import Derived.Test.YtjeopmiopinlgaaTsRq
import Derived.Test.YtjeopmiopinlgaaTsL
import Derived.Test.YtjeopmiopinlgaaTsLi
import Derived.Test.YtjeopmiopinlgaaTsAl
/- The reference's Encode and Polar: of what may not be. -/
/- The reference's Polar. -/
set_option linter.unusedVariables false
set_option linter.unusedSimpArgs false
namespace Go.Proofs.Ytjeopmiopinlgaa
open Go Go.RowKit SL

set_option maxRecDepth 100000 in
set_option maxHeartbeats 4000000 in
theorem rPolar_walk (w0 w : World) (l : List HP) (r N : Nat) (ns : Nodes) (h : SL.St w0 (RGraph r (rnodes ns) N :: l) w) (hw : Wf ns) (hl : ns.length ≤ 1048577) (v : Value) (roots : List Nat) (hr : Ent l (Rd (cNat .u32) v roots)) (hx : ∀ y ∈ roots, y < 2 * ns.length)
    (hcl : (clausesM ns (polarW ns roots) roots).length ≤ 1048576) (hKl : (coneM ns roots).length ≤ 1048576) :
    Calls Try.prog 18 #[.pointer (some ⟨r, 0, none⟩), v] w (REncPost w0 l r N ns (polarW ns roots) roots) := by
  obtain ⟨Ar, cr, hv1, hmr, -⟩ := hr.use h.drop
  subst hv1
  unfold maxLen at hmr
  have h1 := (h.alloc (.cells #[.int .i64 0, .slice none 0 0] 33)).swap
  have hcw := rCone_walk w0 _ _ r N ns h1 hw (by omega) _ roots (Ent.tail hr) hx
  have hli := (coneM_lined hw roots hx).1
  have hmk := run_make_row' (P := Try.prog) 23 3 (.int .i64 0) 8 Try.underlying23 infoInt rfl .i64 .i64 ns.length (by omega) (by omega)
  have hfin : ∀ W, Marks ns roots roots W → gatesCl (varsM ns.length (coneM ns roots)) W ns (coneM ns roots) ++ rootsCl (varsM ns.length (coneM ns roots)) roots = clausesM ns (polarW ns roots) roots := fun W hW => by
    rw [pol_all hw hx _ _ hW]; rfl
  have HLD := Lib.hid (fun (w' : World) (l' : List HP) (vc vw : Value) (W : List Nat) (h : SL.St w0 (RGraph r (rnodes ns) N :: l') w') (q1 : Ent l' (Rd (cNat .u32) (.slice Ar roots.length cr) roots)) (q2 : Ent l' (Rd (cNat .i64) vc (coneM ns roots))) (q3 : Ent l' (Rd (cNat .i64) vw W)) (q6 : Marks ns roots roots W) =>
    laid_walk w0 w' l' r N ns W h hw hl _ roots q1 hx vc _ q2 (fun m hm => (hli.mem m hm).2) hli.nodup vw q3 q6.len q6.lt4 (by rw [hfin W q6]; exact hcl) hKl)
  have HFIN := Lib.hid hfin
  clear hfin h hcl hli
  unfold REncPost
  generalize clausesM ns (polarW ns roots) roots = CE at *
  generalize coneM ns roots = K at *
  go_enter Try.func18, Try.ntmps18
  go_wp2_with (go_at_call 29; refine hcw.mono ?_; rintro e w1 ⟨vc, rfl, h2⟩; obtain ⟨Ac, cc, rfl, hmc, -⟩ := h2.rd; obtain ⟨Ag, cg, g0, -⟩ := rg_slice (h2.pull 1))
  unfold maxLen at hmc
  have h3 := (h2.alloc (.cells (madeCells #[Value.int .i64 0] ns.length) 3)).arr_made (d := cNat .i64) rfl (x := 0) rfl (by unfold maxLen; omega)
  generalize hR : w.heap.size = R at *
  generalize w1.heap.size = gs at h3 ⊢
  generalize World.alloc w1 _ = w2 at h3 ⊢
  clear h2 hmk g0 hcw h1 hR
  go_loopg [10] roots.length (fun k i wr => ∃ (j : Nat) (W : List Nat), j ≤ roots.length ∧ k = roots.length - j ∧ i = .int .i64 j ∧ Marks ns roots (roots.take j) W ∧ SL.St w0 (Arr (cNat .i64) 3 (.slice (some ⟨gs, 0, none⟩) ns.length ns.length) W :: Arr (cNat .i64) 3 (.slice Ac K.length cc) K :: RGraph r (rnodes ns) N :: Blk R (.cells #[.int .i64 0, .slice none 0 0] 33 (0, 0)) :: l) wr)
  case atStart => exact ⟨0, _, Nat.zero_le _, rfl, rfl, Marks.zero ns roots, h3⟩
  case round =>
    clear h3
    obtain ⟨j, W, hj, hgk, rfl, hMa, hsr⟩ := hrel
    subst hgk
    have HMA := Lib.hid hMa; clear hMa
    by_cases hlt : j < roots.length
    · obtain ⟨A', c', hv, -, hc⟩ := hr.use (hsr.sel [] 4)
      obtain ⟨ad, hA', hcell⟩ := rd_at hc j hlt
      obtain rfl : Ar = some ad := by
        have : A' = Ar := by injection hv with h1; exact h1.symm
        rw [← this]; exact hA'
      have hxj := hx _ (List.getElem_mem hlt)
      have hwj : Wanted ns roots roots[j] := .root (List.getElem_mem hlt)
      have HT := Lib.hid (show roots.take (j + 1) = roots.take j ++ [roots[j]] by rw [List.take_succ_eq_append_getElem hlt])
      clear hc hv hA'
      generalize roots[j] = x at *
      have HMK := Lib.hid (rmark_walk w0 (Arr (cNat .i64) 3 (.slice Ac K.length cc) K :: Blk R (.cells #[.int .i64 0, .slice none 0 0] 33 (0, 0)) :: l) r N ns hw hl gs ns.length roots (x / 2 + 1) x W wr (by omega) (by omega) HMA.out.len HMA.out.lt4 hwj (hsr.sel [0, 2, 1, 3]))
      clear hwj
      go_wp2_with fail
      refine HMK.out.mono ?_
      rintro e w5 ⟨rfl, W', hM, h5⟩
      go_wp2_with fail
      go_roundg (roots.length - (j + 1))
      case measure => omega
      case rel => exact ⟨j + 1, W', by omega, rfl, by go_num, by rw [HT.out]; exact HMA.out.snoc hM, h5.sel [0, 2, 1, 3]⟩
    · obtain rfl : j = roots.length := by omega
      have hma := HMA.out
      rw [List.take_length] at hma
      have HM2 := Lib.hid hma; clear hma
      have hld := HLD.out wr _ (.slice Ac K.length cc) (.slice (some ⟨gs, 0, none⟩) ns.length ns.length) W (hsr.sel [2, 1, 0, 3]) (Ent.tail (Ent.tail (Ent.tail hr))) Ent.rd (Ent.tail Ent.rd) HM2.out
      rw [HFIN.out W HM2.out] at hld
      go_wp2_with (go_at_call 41; go_loud (refine hld.mono ?_); go_loud (rintro e w5 ⟨vf', rfl, h7⟩); go_loud (obtain ⟨A3, c3, rfl, _⟩ := h7.rd2.at); go_loud (have b4 : w5.cell? ⟨R, 0, none⟩ = some (.int .i64 0) := (h7.pull 4).cell 0); go_loud (have b5 : w5.cell? ⟨R, 1, none⟩ = some (.slice none 0 0) := (h7.pull 4).cell 1); go_loud (have b6 := (h7.pull 4).free 0); go_loud (have b7 := (h7.pull 4).free 1))
      have h8 := ((h7.pull 4).set 0 (.int .i64 (K.length : Nat))).set 1 (.slice A3 CE.length c3)
      generalize World.setCell _ _ _ = wz at h8 ⊢
      have b0 := h8.cell 0
      have b1 := h8.cell 1
      refine bodyPost_ret (v := .tuple #[.agg #[.int .i64 K.length, .slice A3 CE.length c3], .slice Ac K.length cc, .int .i64 0]) (by simp [results, Try.results18, go_sem, b0, b1]) rfl ⟨_, _, rfl, ?_⟩
      exact h8.sel [1, 3, 2] 2
end Go.Proofs.Ytjeopmiopinlgaa
set_option linter.unusedVariables false
set_option linter.unusedSimpArgs false
namespace Go.Proofs.Ytjeopmiopinlgaa
open Go Go.RowKit SL

set_option maxHeartbeats 1000000 in
theorem rEncode_bad (w0 w : World) (l : List HP) (r N : Nat) (ns : Nodes) (h : SL.St w0 (RGraph r (rnodes ns) N :: l) w) (v : Value) (roots : List Nat) (hr : Ent l (Rd (cNat .u32) v roots)) (hxb : ∀ y ∈ roots, y < 4294967296) (hx : ¬ ∀ y ∈ roots, y < 2 * ns.length) :
    Calls Try.prog 13 #[.pointer (some ⟨r, 0, none⟩), v] w fun e w' =>
      e = .returned (.tuple #[.agg #[.int .i64 0, .slice none 0 0], .slice none 0 0, .int .i64 100]) ∧ SL.St w0 (RGraph r (rnodes ns) N :: l) w' := by
  have h1 := (h.alloc (.cells #[.int .i64 0, .slice none 0 0] 33)).swap
  have hcw := rCone_bad w0 _ _ r N ns h1 v roots (Ent.tail hr) hxb hx
  clear h hx hxb hr
  go_enter Try.func13, Try.ntmps13
  go_wp2_with (go_at_call 29; refine hcw.mono ?_; rintro e w1 ⟨rfl, h2⟩; have b0 : w1.cell? ⟨w.heap.size, 0, none⟩ = some (.int .i64 0) := (h2.pull 1).cell 0; have b1 : w1.cell? ⟨w.heap.size, 1, none⟩ = some (.slice none 0 0) := (h2.pull 1).cell 1; have b2 := (h2.pull 1).free 0; have b3 := (h2.pull 1).free 1)
  have h6 := (((h2.pull 1).set 0 (.int .i64 0)).set 1 (.slice none 0 0))
  generalize World.setCell _ _ _ = wz at h6 ⊢
  have c0 := h6.cell 0
  have c1 := h6.cell 1
  refine bodyPost_ret (v := .tuple #[.agg #[.int .i64 0, .slice none 0 0], .slice none 0 0, .int .i64 100]) (by simp [results, Try.results13, go_sem, c0, c1]) rfl ⟨rfl, ?_⟩
  exact h6.sel [1] 1
set_option maxHeartbeats 1000000 in
theorem rEncode_nil (w0 w : World) (l : List HP) (h : SL.St w0 l w) (v : Value) :
    Calls Try.prog 13 #[.pointer none, v] w fun e w' =>
      e = .returned (.tuple #[.agg #[.int .i64 0, .slice none 0 0], .slice none 0 0, .int .i64 2]) ∧ SL.St w0 l w' := by
  have h2 := h.alloc (.cells #[.int .i64 0, .slice none 0 0] 33)
  have b0 := h2.cell 0
  have b1 := h2.cell 1
  have b2 := h2.free 0
  have b3 := h2.free 1
  clear h
  go_enter Try.func13, Try.ntmps13
  go_wp2_with fail
  refine bodyPost_ret (v := .tuple #[.agg #[.int .i64 0, .slice none 0 0], .slice none 0 0, .int .i64 2]) (by simp [results, Try.results13, go_sem]) rfl ⟨rfl, ?_⟩
  exact h2.drop
set_option maxHeartbeats 1000000 in
theorem rPolar_bad (w0 w : World) (l : List HP) (r N : Nat) (ns : Nodes) (h : SL.St w0 (RGraph r (rnodes ns) N :: l) w) (v : Value) (roots : List Nat) (hr : Ent l (Rd (cNat .u32) v roots)) (hxb : ∀ y ∈ roots, y < 4294967296) (hx : ¬ ∀ y ∈ roots, y < 2 * ns.length) :
    Calls Try.prog 18 #[.pointer (some ⟨r, 0, none⟩), v] w fun e w' =>
      e = .returned (.tuple #[.agg #[.int .i64 0, .slice none 0 0], .slice none 0 0, .int .i64 100]) ∧ SL.St w0 (RGraph r (rnodes ns) N :: l) w' := by
  have h1 := (h.alloc (.cells #[.int .i64 0, .slice none 0 0] 33)).swap
  have hcw := rCone_bad w0 _ _ r N ns h1 v roots (Ent.tail hr) hxb hx
  clear h hx hxb hr
  go_enter Try.func18, Try.ntmps18
  go_wp2_with (go_at_call 29; refine hcw.mono ?_; rintro e w1 ⟨rfl, h2⟩; have b0 : w1.cell? ⟨w.heap.size, 0, none⟩ = some (.int .i64 0) := (h2.pull 1).cell 0; have b1 : w1.cell? ⟨w.heap.size, 1, none⟩ = some (.slice none 0 0) := (h2.pull 1).cell 1; have b2 := (h2.pull 1).free 0; have b3 := (h2.pull 1).free 1)
  have h6 := (((h2.pull 1).set 0 (.int .i64 0)).set 1 (.slice none 0 0))
  generalize World.setCell _ _ _ = wz at h6 ⊢
  have c0 := h6.cell 0
  have c1 := h6.cell 1
  refine bodyPost_ret (v := .tuple #[.agg #[.int .i64 0, .slice none 0 0], .slice none 0 0, .int .i64 100]) (by simp [results, Try.results18, go_sem, c0, c1]) rfl ⟨rfl, ?_⟩
  exact h6.sel [1] 1
set_option maxHeartbeats 1000000 in
theorem rPolar_nil (w0 w : World) (l : List HP) (h : SL.St w0 l w) (v : Value) :
    Calls Try.prog 18 #[.pointer none, v] w fun e w' =>
      e = .returned (.tuple #[.agg #[.int .i64 0, .slice none 0 0], .slice none 0 0, .int .i64 2]) ∧ SL.St w0 l w' := by
  have h2 := h.alloc (.cells #[.int .i64 0, .slice none 0 0] 33)
  have b0 := h2.cell 0
  have b1 := h2.cell 1
  have b2 := h2.free 0
  have b3 := h2.free 1
  clear h
  go_enter Try.func18, Try.ntmps18
  go_wp2_with fail
  refine bodyPost_ret (v := .tuple #[.agg #[.int .i64 0, .slice none 0 0], .slice none 0 0, .int .i64 2]) (by simp [results, Try.results18, go_sem]) rfl ⟨rfl, ?_⟩
  exact h2.drop
end Go.Proofs.Ytjeopmiopinlgaa
set_option linter.unusedVariables false
set_option linter.unusedSimpArgs false
namespace Go.Proofs.Ytjeopmiopinlgaa
open Go Go.RowKit SL

open Classical in
noncomputable def encR (ns : Nodes) (wants roots : List Nat) : Nat × List (List Int) × List Nat × Nat :=
  if Good ns roots then ((coneM ns roots).length, clausesM ns wants roots, coneM ns roots, 0) else (0, [], [], 100)
theorem enc_bounds {ns : Nodes} (hgd : GoodG ns) {wants roots : List Nat} (hb : 3 * ns.length + roots.length ≤ 1048579) : (clausesM ns wants roots).length ≤ 1048576 ∧ (coneM ns roots).length ≤ 1048576 := by
  have h1 := coneM_length ns roots hgd.pos
  have h2 := clausesM_length ns wants roots
  omega
theorem encR_bounds {ns : Nodes} (hgd : GoodG ns) {wants roots : List Nat} (hb : 3 * ns.length + roots.length ≤ 1048579) : (encR ns wants roots).1 ≤ 1048576 ∧ (encR ns wants roots).2.1.length ≤ 1048576 ∧ (encR ns wants roots).2.2.1.length ≤ 1048576 ∧ (encR ns wants roots).2.2.2 ≤ 100 := by
  have h := enc_bounds hgd (wants := wants) hb
  unfold encR
  split
  · exact ⟨h.2, h.1, h.2, Nat.zero_le _⟩
  · exact ⟨by decide, by decide, by decide, by decide⟩
theorem Encode_any (w0 w : World) (l : List HP) (g : Nat) (ns : Nodes) (h : SL.St w0 (Graph g ns :: l) w) (hgd : GoodG ns) (hl : ns.length ≤ 1048577) (v : Value) (roots : List Nat) (hr : Ent l (Rd (cNat .u32) v roots)) (hxb : ∀ y ∈ roots, y < 4294967296) (hb : 3 * ns.length + roots.length ≤ 1048579) :
    Calls Try.prog 12 #[.pointer (some ⟨g, 0, none⟩), v] w fun e w' => ∃ vf vc, e = .returned (.tuple #[.agg #[.int .i64 ((encR ns (encodeW ns (coneM ns roots)) roots).1 : Nat), vf], vc, .int .i64 ((encR ns (encodeW ns (coneM ns roots)) roots).2.2.2 : Nat)]) ∧
      SL.St w0 (Arr2 (cInt .i64) 3 60 vf (encR ns (encodeW ns (coneM ns roots)) roots).2.1 :: Arr (cNat .i64) 3 vc (encR ns (encodeW ns (coneM ns roots)) roots).2.2.1 :: Graph g ns :: l) w' := by
  have hbd := enc_bounds hgd (wants := (encodeW ns (coneM ns roots))) hb
  unfold encR
  by_cases hx : Good ns roots
  · rw [if_pos hx]; exact Encode_walk w0 w l g ns h hgd.wf hl v roots hr hx hbd.1 hbd.2
  · rw [if_neg hx]
    refine (Encode_bad w0 w l g ns h hl v roots hr hxb hx).mono ?_
    rintro e w' ⟨rfl, h2⟩
    exact ⟨_, _, rfl, SL.St.nil2 (h2.rows_nil (cNat .i64) 3) (cInt .i64) 3 60⟩
theorem rEncode_any (w0 w : World) (l : List HP) (g N : Nat) (ns : Nodes) (h : SL.St w0 (RGraph g (rnodes ns) N :: l) w) (hgd : GoodG ns) (hl : ns.length ≤ 1048577) (v : Value) (roots : List Nat) (hr : Ent l (Rd (cNat .u32) v roots)) (hxb : ∀ y ∈ roots, y < 4294967296) (hb : 3 * ns.length + roots.length ≤ 1048579) :
    Calls Try.prog 13 #[.pointer (some ⟨g, 0, none⟩), v] w fun e w' => ∃ vf vc, e = .returned (.tuple #[.agg #[.int .i64 ((encR ns (encodeW ns (coneM ns roots)) roots).1 : Nat), vf], vc, .int .i64 ((encR ns (encodeW ns (coneM ns roots)) roots).2.2.2 : Nat)]) ∧
      SL.St w0 (Arr2 (cInt .i64) 3 60 vf (encR ns (encodeW ns (coneM ns roots)) roots).2.1 :: Arr (cNat .i64) 3 vc (encR ns (encodeW ns (coneM ns roots)) roots).2.2.1 :: RGraph g (rnodes ns) N :: l) w' := by
  have hbd := enc_bounds hgd (wants := (encodeW ns (coneM ns roots))) hb
  unfold encR
  by_cases hx : Good ns roots
  · rw [if_pos hx]; exact rEncode_walk w0 w l g N ns h hgd.wf hl v roots hr hx hbd.1 hbd.2
  · rw [if_neg hx]
    refine (rEncode_bad w0 w l g N ns h v roots hr hxb hx).mono ?_
    rintro e w' ⟨rfl, h2⟩
    exact ⟨_, _, rfl, SL.St.nil2 (h2.rows_nil (cNat .i64) 3) (cInt .i64) 3 60⟩
theorem Polar_any (w0 w : World) (l : List HP) (g : Nat) (ns : Nodes) (h : SL.St w0 (Graph g ns :: l) w) (hgd : GoodG ns) (hl : ns.length ≤ 1048577) (v : Value) (roots : List Nat) (hr : Ent l (Rd (cNat .u32) v roots)) (hxb : ∀ y ∈ roots, y < 4294967296) (hb : 3 * ns.length + roots.length ≤ 1048579) :
    Calls Try.prog 17 #[.pointer (some ⟨g, 0, none⟩), v] w fun e w' => ∃ vf vc, e = .returned (.tuple #[.agg #[.int .i64 ((encR ns (polarW ns roots) roots).1 : Nat), vf], vc, .int .i64 ((encR ns (polarW ns roots) roots).2.2.2 : Nat)]) ∧
      SL.St w0 (Arr2 (cInt .i64) 3 60 vf (encR ns (polarW ns roots) roots).2.1 :: Arr (cNat .i64) 3 vc (encR ns (polarW ns roots) roots).2.2.1 :: Graph g ns :: l) w' := by
  have hbd := enc_bounds hgd (wants := (polarW ns roots)) hb
  unfold encR
  by_cases hx : Good ns roots
  · rw [if_pos hx]; exact Polar_walk w0 w l g ns h hgd.wf hl v roots hr hx hbd.1 hbd.2
  · rw [if_neg hx]
    refine (Polar_bad w0 w l g ns h hl v roots hr hxb hx).mono ?_
    rintro e w' ⟨rfl, h2⟩
    exact ⟨_, _, rfl, SL.St.nil2 (h2.rows_nil (cNat .i64) 3) (cInt .i64) 3 60⟩
theorem rPolar_any (w0 w : World) (l : List HP) (g N : Nat) (ns : Nodes) (h : SL.St w0 (RGraph g (rnodes ns) N :: l) w) (hgd : GoodG ns) (hl : ns.length ≤ 1048577) (v : Value) (roots : List Nat) (hr : Ent l (Rd (cNat .u32) v roots)) (hxb : ∀ y ∈ roots, y < 4294967296) (hb : 3 * ns.length + roots.length ≤ 1048579) :
    Calls Try.prog 18 #[.pointer (some ⟨g, 0, none⟩), v] w fun e w' => ∃ vf vc, e = .returned (.tuple #[.agg #[.int .i64 ((encR ns (polarW ns roots) roots).1 : Nat), vf], vc, .int .i64 ((encR ns (polarW ns roots) roots).2.2.2 : Nat)]) ∧
      SL.St w0 (Arr2 (cInt .i64) 3 60 vf (encR ns (polarW ns roots) roots).2.1 :: Arr (cNat .i64) 3 vc (encR ns (polarW ns roots) roots).2.2.1 :: RGraph g (rnodes ns) N :: l) w' := by
  have hbd := enc_bounds hgd (wants := (polarW ns roots)) hb
  unfold encR
  by_cases hx : Good ns roots
  · rw [if_pos hx]; exact rPolar_walk w0 w l g N ns h hgd.wf hl v roots hr hx hbd.1 hbd.2
  · rw [if_neg hx]
    refine (rPolar_bad w0 w l g N ns h v roots hr hxb hx).mono ?_
    rintro e w' ⟨rfl, h2⟩
    exact ⟨_, _, rfl, SL.St.nil2 (h2.rows_nil (cNat .i64) 3) (cInt .i64) 3 60⟩
end Go.Proofs.Ytjeopmiopinlgaa
