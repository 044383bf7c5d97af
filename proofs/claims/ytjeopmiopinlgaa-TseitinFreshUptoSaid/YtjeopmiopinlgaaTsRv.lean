/- The reference's Encode and Polar: of what may not be. -/
import Derived.Test.YtjeopmiopinlgaaTsRm
import Derived.Test.YtjeopmiopinlgaaTsFew
/- The reference's Encode and Polar. -/
/- The clauses depend on what is wanted of the cone's nodes alone. -/
set_option linter.unusedVariables false
set_option linter.unusedSimpArgs false
namespace Go.Proofs.Ytjeopmiopinlgaa

theorem gateCl_congr {vs w1 w2 : List Nat} {ns : Nodes} {n : Nat} (h1 : (w1.getD n 0 &&& 1 ≠ 0) ↔ (w2.getD n 0 &&& 1 ≠ 0)) (h2 : (w1.getD n 0 &&& 2 ≠ 0) ↔ (w2.getD n 0 &&& 2 ≠ 0)) : gateCl vs w1 ns n = gateCl vs w2 ns n := by
  unfold gateCl
  by_cases q1 : w2.getD n 0 &&& 1 ≠ 0 <;> by_cases q2 : w2.getD n 0 &&& 2 ≠ 0
  · rw [if_pos q1, if_pos q2, if_pos (h1.2 q1), if_pos (h2.2 q2)]
  · rw [if_pos q1, if_neg q2, if_pos (h1.2 q1), if_neg (fun q => q2 (h2.1 q))]
  · rw [if_neg q1, if_pos q2, if_neg (fun q => q1 (h1.1 q)), if_pos (h2.2 q2)]
  · rw [if_neg q1, if_neg q2, if_neg (fun q => q1 (h1.1 q)), if_neg (fun q => q2 (h2.1 q))]
theorem gatesCl_congr {vs w1 w2 : List Nat} {ns : Nodes} : ∀ (l : List Nat), (∀ n ∈ l, gateCl vs w1 ns n = gateCl vs w2 ns n) → gatesCl vs w1 ns l = gatesCl vs w2 ns l
  | [], _ => rfl
  | n :: l, h => by
    unfold gatesCl
    rw [List.flatMap_cons, List.flatMap_cons, h n List.mem_cons_self]
    have := gatesCl_congr l fun m hm => h m (List.mem_cons_of_mem _ hm)
    unfold gatesCl at this
    rw [this]
/-- All wanted. -/
theorem enc_all {ns : Nodes} {K W : List Nat} (vs : List Nat) (hK : ∀ m ∈ K, m < ns.length) (h : ∀ i < ns.length, W.getD i 0 = 3) : gatesCl vs W ns K = gatesCl vs (encodeW ns K) ns K :=
  gatesCl_congr K fun n hn => by
    refine gateCl_congr ?_ ?_ <;> rw [h n (hK n hn), encodeW_get hK n hn]
/-- What the marks by depth come to. -/
structure Marks (ns : Nodes) (roots l W : List Nat) : Prop where
  len : W.length = ns.length
  lt4 : ∀ y ∈ W, y < 4
  self : ∀ x ∈ l, hasL W x = true
  good : ∀ y, hasL W y = true → Wanted ns roots y
  shut : ∀ y, hasL W y = true → isGate ns (y / 2) = true → ∀ c, Child ns y c → hasL W c = true
theorem Marks.zero (ns : Nodes) (roots : List Nat) : Marks ns roots [] (List.replicate ns.length 0) :=
  ⟨by simp, fun y hy => by rw [(List.mem_replicate.1 hy).2]; decide, fun x h => by simp at h, fun y h => by rw [hasL_zero] at h; simp at h, fun y h => by rw [hasL_zero] at h; simp at h⟩
theorem Marks.snoc {ns : Nodes} {roots l W W' : List Nat} {x : Nat} (h : Marks ns roots l W) (m : Marked ns roots W x W') : Marks ns roots (l ++ [x]) W' := by
  refine ⟨by rw [m.len, h.len], m.lt4, fun y hy => ?_, fun y hy => ?_, fun y hy => ?_⟩
  · rcases List.mem_append.1 hy with q | q
    · exact m.mono _ (h.self _ q)
    · rw [List.mem_singleton.1 q]; exact m.self
  · rcases m.good y hy with q | q
    · exact h.good y q
    · exact q
  · rcases m.shut y hy with q | q
    · exact fun g c hc => m.mono _ (h.shut y q g c hc)
    · exact q
theorem Marks.has {ns : Nodes} {roots W : List Nat} (h : Marks ns roots roots W) (x : Nat) : hasL W x = true ↔ Wanted ns roots x := by
  refine ⟨h.good x, fun q => ?_⟩
  induction q with
  | root q => exact h.self _ q
  | @a n hn hg _ ih =>
    refine h.shut _ ih (by rwa [show (2 * n) / 2 = n by omega]) _ (.inl ?_)
    unfold flipL; rw [if_neg (by omega), show (2 * n) / 2 = n by omega]
  | @b n hn hg _ ih =>
    refine h.shut _ ih (by rwa [show (2 * n) / 2 = n by omega]) _ (.inr ?_)
    unfold flipL; rw [if_neg (by omega), show (2 * n) / 2 = n by omega]
  | @na n hn hg _ ih =>
    refine h.shut _ ih (by rwa [show (2 * n + 1) / 2 = n by omega]) _ (.inl ?_)
    unfold flipL; rw [if_pos (by omega), show (2 * n + 1) / 2 = n by omega]
  | @nb n hn hg _ ih =>
    refine h.shut _ ih (by rwa [show (2 * n + 1) / 2 = n by omega]) _ (.inr ?_)
    unfold flipL; rw [if_pos (by omega), show (2 * n + 1) / 2 = n by omega]
theorem pol_all {ns : Nodes} {roots W : List Nat} (hw : Wf ns) (hx : ∀ r ∈ roots, r < 2 * ns.length) (vs K : List Nat) (h : Marks ns roots roots W) : gatesCl vs W ns K = gatesCl vs (polarW ns roots) ns K :=
  gatesCl_congr K fun n _ => by
    refine gateCl_congr ?_ ?_
    · rw [hasL_even, hasL_even, h.has, polar_has hw hx]
    · rw [hasL_odd, hasL_odd, h.has, polar_has hw hx]
end Go.Proofs.Ytjeopmiopinlgaa
set_option linter.unusedVariables false
set_option linter.unusedSimpArgs false
namespace Go.Proofs.Ytjeopmiopinlgaa
open Go Go.RowKit SL

/-- What the reference's Encode and Polar answer. -/
def REncPost (w0 : World) (l : List HP) (r N : Nat) (ns : Nodes) (wants roots : List Nat) (e : Ending) (w' : World) : Prop :=
  ∃ vf vc, e = .returned (.tuple #[.agg #[.int .i64 (coneM ns roots).length, vf], vc, .int .i64 0]) ∧ SL.St w0 (Arr2 (cInt .i64) 3 60 vf (clausesM ns wants roots) :: Arr (cNat .i64) 3 vc (coneM ns roots) :: RGraph r (rnodes ns) N :: l) w'

set_option maxRecDepth 100000 in
set_option maxHeartbeats 4000000 in
theorem rEncode_walk (w0 w : World) (l : List HP) (r N : Nat) (ns : Nodes) (h : SL.St w0 (RGraph r (rnodes ns) N :: l) w) (hw : Wf ns) (hl : ns.length ≤ 1048577) (v : Value) (roots : List Nat) (hr : Ent l (Rd (cNat .u32) v roots)) (hx : ∀ y ∈ roots, y < 2 * ns.length)
    (hcl : (clausesM ns (encodeW ns (coneM ns roots)) roots).length ≤ 1048576) (hKl : (coneM ns roots).length ≤ 1048576) :
    Calls Try.prog 13 #[.pointer (some ⟨r, 0, none⟩), v] w (REncPost w0 l r N ns (encodeW ns (coneM ns roots)) roots) := by
  obtain ⟨Ar, cr, hv1, hmr, -⟩ := hr.use h.drop
  subst hv1
  unfold maxLen at hmr
  have h1 := (h.alloc (.cells #[.int .i64 0, .slice none 0 0] 33)).swap
  have hcw := rCone_walk w0 _ _ r N ns h1 hw (by omega) _ roots (Ent.tail hr) hx
  have hli := (coneM_lined hw roots hx).1
  have hmk := run_make_row' (P := Try.prog) 23 3 (.int .i64 0) 8 Try.underlying23 infoInt rfl .i64 .i64 ns.length (by omega) (by omega)
  have hfin : ∀ W, (∀ i < ns.length, W.getD i 0 = 3) → gatesCl (varsM ns.length (coneM ns roots)) W ns (coneM ns roots) ++ rootsCl (varsM ns.length (coneM ns roots)) roots = clausesM ns (encodeW ns (coneM ns roots)) roots := fun W hW => by
    rw [enc_all _ (fun m hm => (hli.mem m hm).2) hW]; rfl
  have HLD := Lib.hid (fun (w' : World) (l' : List HP) (vc vw : Value) (W : List Nat) (h : SL.St w0 (RGraph r (rnodes ns) N :: l') w') (q1 : Ent l' (Rd (cNat .u32) (.slice Ar roots.length cr) roots)) (q2 : Ent l' (Rd (cNat .i64) vc (coneM ns roots))) (q3 : Ent l' (Rd (cNat .i64) vw W)) (q4 : W.length = ns.length) (q5 : ∀ y ∈ W, y < 4) (q6 : ∀ i < ns.length, W.getD i 0 = 3) =>
    laid_walk w0 w' l' r N ns W h hw hl _ roots q1 hx vc _ q2 (fun m hm => (hli.mem m hm).2) hli.nodup vw q3 q4 q5 (by rw [hfin W q6]; exact hcl) hKl)
  have HFIN := Lib.hid hfin
  clear hfin h hcl hli
  unfold REncPost
  generalize clausesM ns (encodeW ns (coneM ns roots)) roots = CE at *
  generalize coneM ns roots = K at *
  go_enter Try.func13, Try.ntmps13
  go_wp2_with (go_at_call 29; refine hcw.mono ?_; rintro e w1 ⟨vc, rfl, h2⟩; obtain ⟨Ac, cc, rfl, hmc, -⟩ := h2.rd; obtain ⟨Ag, cg, g0, -⟩ := rg_slice (h2.pull 1))
  unfold maxLen at hmc
  have h3 := (h2.alloc (.cells (madeCells #[Value.int .i64 0] ns.length) 3)).arr_made (d := cNat .i64) rfl (x := 0) rfl (by unfold maxLen; omega)
  generalize hR : w.heap.size = R at *
  generalize w1.heap.size = gs at h3 ⊢
  generalize World.alloc w1 _ = w2 at h3 ⊢
  clear h2 hmk g0 hcw h1 hR
  go_loopg [10] ns.length (fun k i wr => ∃ (j : Nat) (W : List Nat), j ≤ ns.length ∧ k = ns.length - j ∧ i = .int .i64 j ∧ W.length = ns.length ∧ (∀ y ∈ W, y < 4) ∧ (∀ i < j, W.getD i 0 = 3) ∧ SL.St w0 (Arr (cNat .i64) 3 (.slice (some ⟨gs, 0, none⟩) ns.length ns.length) W :: Arr (cNat .i64) 3 (.slice Ac K.length cc) K :: RGraph r (rnodes ns) N :: Blk R (.cells #[.int .i64 0, .slice none 0 0] 33 (0, 0)) :: l) wr)
  case atStart => exact ⟨0, _, Nat.zero_le _, rfl, rfl, by simp, fun y hy => by rw [(List.mem_replicate.1 hy).2]; decide, fun i hi => by omega, h3⟩
  case round =>
    clear h3
    obtain ⟨j, W, hj, hgk, rfl, hWl, hW4, hW3, hsr⟩ := hrel
    subst hgk
    have HWL := Lib.hid hWl; have HW4 := Lib.hid hW4; have HW3 := Lib.hid hW3; clear hWl hW4 hW3
    by_cases hlt : j < ns.length
    · obtain ⟨c0, c1⟩ := hsr.arr_cell1 rfl j _ (List.getElem?_eq_getElem (by rw [HWL.out]; exact hlt)) _ rfl
      have hset := hsr.arr_set1 rfl j (by rw [HWL.out]; exact hlt) 3 _ rfl
      go_wp2_with fail
      go_roundg (ns.length - (j + 1))
      case measure => omega
      case rel =>
        refine ⟨j + 1, W.set j 3, by omega, rfl, by go_num, by rw [List.length_set, HWL.out], fun y hy => ?_, fun i hi => ?_, hset⟩
        · rcases List.mem_or_eq_of_mem_set hy with q | q
          · exact HW4.out y q
          · omega
        · rw [List.getD_eq_getElem?_getD, List.getElem?_set]
          by_cases e : j = i
          · rw [if_pos e, if_pos (by rw [HWL.out]; exact hlt)]; rfl
          · rw [if_neg e, ← List.getD_eq_getElem?_getD]; exact HW3.out i (by omega)
    · obtain rfl : j = ns.length := by omega
      have hld := HLD.out wr _ (.slice Ac K.length cc) (.slice (some ⟨gs, 0, none⟩) ns.length ns.length) W (hsr.sel [2, 1, 0, 3]) (Ent.tail (Ent.tail (Ent.tail hr))) Ent.rd (Ent.tail Ent.rd) HWL.out HW4.out HW3.out
      rw [HFIN.out W HW3.out] at hld
      go_wp2_with (go_at_call 41; go_loud (refine hld.mono ?_); go_loud (rintro e w5 ⟨vf', rfl, h7⟩); go_loud (obtain ⟨A3, c3, rfl, _⟩ := h7.rd2.at); go_loud (have b4 : w5.cell? ⟨R, 0, none⟩ = some (.int .i64 0) := (h7.pull 4).cell 0); go_loud (have b5 : w5.cell? ⟨R, 1, none⟩ = some (.slice none 0 0) := (h7.pull 4).cell 1); go_loud (have b6 := (h7.pull 4).free 0); go_loud (have b7 := (h7.pull 4).free 1))
      have h8 := ((h7.pull 4).set 0 (.int .i64 (K.length : Nat))).set 1 (.slice A3 CE.length c3)
      generalize World.setCell _ _ _ = wz at h8 ⊢
      have b0 := h8.cell 0
      have b1 := h8.cell 1
      refine bodyPost_ret (v := .tuple #[.agg #[.int .i64 K.length, .slice A3 CE.length c3], .slice Ac K.length cc, .int .i64 0]) (by simp [results, Try.results13, go_sem, b0, b1]) rfl ⟨_, _, rfl, ?_⟩
      exact h8.sel [1, 3, 2] 2
end Go.Proofs.Ytjeopmiopinlgaa
/- The reference's Polar. -/
set_option linter.unusedVariables false
set_option linter.unusedSimpArgs false
namespace Go.Proofs.Ytjeopmiopinlgaa
open Go Go.RowKit SL

set_option maxRecDepth 100000 in
set_option maxHeartbeats 4000000 in
theorem rPolar_walk (w0 w : World) (l : List HP) (r N : Nat) (ns : Nodes) (h : SL.St w0 (RGraph r (rnodes ns) N :: l) w) (hw : Wf ns) (hl : ns.length ≤ 1048577) (v : Value) (roots : List Nat) (hr : Ent l (Rd (cNat .u32) v roots)) (hx : ∀ y ∈ roots, y < 2 * ns.length)
    (hcl : (clausesM ns (polarW ns roots) roots).length ≤ 1048576) (hKl : (coneM ns roots).length ≤ 1048576) :
    Calls Try.prog 18 #[.pointer (some ⟨r, 0, none⟩), v] w (REncPost w0 l r N ns (polarW ns roots) roots) := by
  obtain ⟨Ar, cr, hv1, hmr, -⟩ := hr.use h.drop
  subst hv1
  unfold maxLen at hmr
  have h1 := (h.alloc (.cells #[.int .i64 0, .slice none 0 0] 33)).swap
  have hcw := rCone_walk w0 _ _ r N ns h1 hw (by omega) _ roots (Ent.tail hr) hx
  have hli := (coneM_lined hw roots hx).1
  have hmk := run_make_row' (P := Try.prog) 23 3 (.int .i64 0) 8 Try.underlying23 infoInt rfl .i64 .i64 ns.length (by omega) (by omega)
  have hfin : ∀ W, Marks ns roots roots W → gatesCl (varsM ns.length (coneM ns roots)) W ns (coneM ns roots) ++ rootsCl (varsM ns.length (coneM ns roots)) roots = clausesM ns (polarW ns roots) roots := fun W hW => by
    rw [pol_all hw hx _ _ hW]; rfl
  have HLD := Lib.hid (fun (w' : World) (l' : List HP) (vc vw : Value) (W : List Nat) (h : SL.St w0 (RGraph r (rnodes ns) N :: l') w') (q1 : Ent l' (Rd (cNat .u32) (.slice Ar roots.length cr) roots)) (q2 : Ent l' (Rd (cNat .i64) vc (coneM ns roots))) (q3 : Ent l' (Rd (cNat .i64) vw W)) (q6 : Marks ns roots roots W) =>
    laid_walk w0 w' l' r N ns W h hw hl _ roots q1 hx vc _ q2 (fun m hm => (hli.mem m hm).2) hli.nodup vw q3 q6.len q6.lt4 (by rw [hfin W q6]; exact hcl) hKl)
  have HFIN := Lib.hid hfin
  clear hfin h hcl hli
  unfold REncPost
  generalize clausesM ns (polarW ns roots) roots = CE at *
  generalize coneM ns roots = K at *
  go_enter Try.func18, Try.ntmps18
  go_wp2_with (go_at_call 29; refine hcw.mono ?_; rintro e w1 ⟨vc, rfl, h2⟩; obtain ⟨Ac, cc, rfl, hmc, -⟩ := h2.rd; obtain ⟨Ag, cg, g0, -⟩ := rg_slice (h2.pull 1))
  unfold maxLen at hmc
  have h3 := (h2.alloc (.cells (madeCells #[Value.int .i64 0] ns.length) 3)).arr_made (d := cNat .i64) rfl (x := 0) rfl (by unfold maxLen; omega)
  generalize hR : w.heap.size = R at *
  generalize w1.heap.size = gs at h3 ⊢
  generalize World.alloc w1 _ = w2 at h3 ⊢
  clear h2 hmk g0 hcw h1 hR
  go_loopg [10] roots.length (fun k i wr => ∃ (j : Nat) (W : List Nat), j ≤ roots.length ∧ k = roots.length - j ∧ i = .int .i64 j ∧ Marks ns roots (roots.take j) W ∧ SL.St w0 (Arr (cNat .i64) 3 (.slice (some ⟨gs, 0, none⟩) ns.length ns.length) W :: Arr (cNat .i64) 3 (.slice Ac K.length cc) K :: RGraph r (rnodes ns) N :: Blk R (.cells #[.int .i64 0, .slice none 0 0] 33 (0, 0)) :: l) wr)
  case atStart => exact ⟨0, _, Nat.zero_le _, rfl, rfl, Marks.zero ns roots, h3⟩
  case round =>
    clear h3
    obtain ⟨j, W, hj, hgk, rfl, hMa, hsr⟩ := hrel
    subst hgk
    have HMA := Lib.hid hMa; clear hMa
    by_cases hlt : j < roots.length
    · obtain ⟨A', c', hv, -, hc⟩ := hr.use (hsr.sel [] 4)
      obtain ⟨ad, hA', hcell⟩ := rd_at hc j hlt
      obtain rfl : Ar = some ad := by
        have : A' = Ar := by injection hv with h1; exact h1.symm
        rw [← this]; exact hA'
      have hxj := hx _ (List.getElem_mem hlt)
      have hwj : Wanted ns roots roots[j] := .root (List.getElem_mem hlt)
      have HT := Lib.hid (show roots.take (j + 1) = roots.take j ++ [roots[j]] by rw [List.take_succ_eq_append_getElem hlt])
      clear hc hv hA'
      generalize roots[j] = x at *
      have HMK := Lib.hid (rmark_walk w0 (Arr (cNat .i64) 3 (.slice Ac K.length cc) K :: Blk R (.cells #[.int .i64 0, .slice none 0 0] 33 (0, 0)) :: l) r N ns hw hl gs ns.length roots (x / 2 + 1) x W wr (by omega) (by omega) HMA.out.len HMA.out.lt4 hwj (hsr.sel [0, 2, 1, 3]))
      clear hwj
      go_wp2_with fail
      refine HMK.out.mono ?_
      rintro e w5 ⟨rfl, W', hM, h5⟩
      go_wp2_with fail
      go_roundg (roots.length - (j + 1))
      case measure => omega
      case rel => exact ⟨j + 1, W', by omega, rfl, by go_num, by rw [HT.out]; exact HMA.out.snoc hM, h5.sel [0, 2, 1, 3]⟩
    · obtain rfl : j = roots.length := by omega
      have hma := HMA.out
      rw [List.take_length] at hma
      have HM2 := Lib.hid hma; clear hma
      have hld := HLD.out wr _ (.slice Ac K.length cc) (.slice (some ⟨gs, 0, none⟩) ns.length ns.length) W (hsr.sel [2, 1, 0, 3]) (Ent.tail (Ent.tail (Ent.tail hr))) Ent.rd (Ent.tail Ent.rd) HM2.out
      rw [HFIN.out W HM2.out] at hld
      go_wp2_with (go_at_call 41; go_loud (refine hld.mono ?_); go_loud (rintro e w5 ⟨vf', rfl, h7⟩); go_loud (obtain ⟨A3, c3, rfl, _⟩ := h7.rd2.at); go_loud (have b4 : w5.cell? ⟨R, 0, none⟩ = some (.int .i64 0) := (h7.pull 4).cell 0); go_loud (have b5 : w5.cell? ⟨R, 1, none⟩ = some (.slice none 0 0) := (h7.pull 4).cell 1); go_loud (have b6 := (h7.pull 4).free 0); go_loud (have b7 := (h7.pull 4).free 1))
      have h8 := ((h7.pull 4).set 0 (.int .i64 (K.length : Nat))).set 1 (.slice A3 CE.length c3)
      generalize World.setCell _ _ _ = wz at h8 ⊢
      have b0 := h8.cell 0
      have b1 := h8.cell 1
      refine bodyPost_ret (v := .tuple #[.agg #[.int .i64 K.length, .slice A3 CE.length c3], .slice Ac K.length cc, .int .i64 0]) (by simp [results, Try.results18, go_sem, b0, b1]) rfl ⟨_, _, rfl, ?_⟩
      exact h8.sel [1, 3, 2] 2
end Go.Proofs.Ytjeopmiopinlgaa
set_option linter.unusedVariables false
set_option linter.unusedSimpArgs false
namespace Go.Proofs.Ytjeopmiopinlgaa
open Go Go.RowKit SL

set_option maxHeartbeats 1000000 in
theorem rEncode_bad (w0 w : World) (l : List HP) (r N : Nat) (ns : Nodes) (h : SL.St w0 (RGraph r (rnodes ns) N :: l) w) (v : Value) (roots : List Nat) (hr : Ent l (Rd (cNat .u32) v roots)) (hxb : ∀ y ∈ roots, y < 4294967296) (hx : ¬ ∀ y ∈ roots, y < 2 * ns.length) :
    Calls Try.prog 13 #[.pointer (some ⟨r, 0, none⟩), v] w fun e w' =>
      e = .returned (.tuple #[.agg #[.int .i64 0, .slice none 0 0], .slice none 0 0, .int .i64 100]) ∧ SL.St w0 (RGraph r (rnodes ns) N :: l) w' := by
  have h1 := (h.alloc (.cells #[.int .i64 0, .slice none 0 0] 33)).swap
  have hcw := rCone_bad w0 _ _ r N ns h1 v roots (Ent.tail hr) hxb hx
  clear h hx hxb hr
  go_enter Try.func13, Try.ntmps13
  go_wp2_with (go_at_call 29; refine hcw.mono ?_; rintro e w1 ⟨rfl, h2⟩; have b0 : w1.cell? ⟨w.heap.size, 0, none⟩ = some (.int .i64 0) := (h2.pull 1).cell 0; have b1 : w1.cell? ⟨w.heap.size, 1, none⟩ = some (.slice none 0 0) := (h2.pull 1).cell 1; have b2 := (h2.pull 1).free 0; have b3 := (h2.pull 1).free 1)
  have h6 := (((h2.pull 1).set 0 (.int .i64 0)).set 1 (.slice none 0 0))
  generalize World.setCell _ _ _ = wz at h6 ⊢
  have c0 := h6.cell 0
  have c1 := h6.cell 1
  refine bodyPost_ret (v := .tuple #[.agg #[.int .i64 0, .slice none 0 0], .slice none 0 0, .int .i64 100]) (by simp [results, Try.results13, go_sem, c0, c1]) rfl ⟨rfl, ?_⟩
  exact h6.sel [1] 1
set_option maxHeartbeats 1000000 in
theorem rEncode_nil (w0 w : World) (l : List HP) (h : SL.St w0 l w) (v : Value) :
    Calls Try.prog 13 #[.pointer none, v] w fun e w' =>
      e = .returned (.tuple #[.agg #[.int .i64 0, .slice none 0 0], .slice none 0 0, .int .i64 2]) ∧ SL.St w0 l w' := by
  have h2 := h.alloc (.cells #[.int .i64 0, .slice none 0 0] 33)
  have b0 := h2.cell 0
  have b1 := h2.cell 1
  have b2 := h2.free 0
  have b3 := h2.free 1
  clear h
  go_enter Try.func13, Try.ntmps13
  go_wp2_with fail
  refine bodyPost_ret (v := .tuple #[.agg #[.int .i64 0, .slice none 0 0], .slice none 0 0, .int .i64 2]) (by simp [results, Try.results13, go_sem]) rfl ⟨rfl, ?_⟩
  exact h2.drop
set_option maxHeartbeats 1000000 in
theorem rPolar_bad (w0 w : World) (l : List HP) (r N : Nat) (ns : Nodes) (h : SL.St w0 (RGraph r (rnodes ns) N :: l) w) (v : Value) (roots : List Nat) (hr : Ent l (Rd (cNat .u32) v roots)) (hxb : ∀ y ∈ roots, y < 4294967296) (hx : ¬ ∀ y ∈ roots, y < 2 * ns.length) :
    Calls Try.prog 18 #[.pointer (some ⟨r, 0, none⟩), v] w fun e w' =>
      e = .returned (.tuple #[.agg #[.int .i64 0, .slice none 0 0], .slice none 0 0, .int .i64 100]) ∧ SL.St w0 (RGraph r (rnodes ns) N :: l) w' := by
  have h1 := (h.alloc (.cells #[.int .i64 0, .slice none 0 0] 33)).swap
  have hcw := rCone_bad w0 _ _ r N ns h1 v roots (Ent.tail hr) hxb hx
  clear h hx hxb hr
  go_enter Try.func18, Try.ntmps18
  go_wp2_with (go_at_call 29; refine hcw.mono ?_; rintro e w1 ⟨rfl, h2⟩; have b0 : w1.cell? ⟨w.heap.size, 0, none⟩ = some (.int .i64 0) := (h2.pull 1).cell 0; have b1 : w1.cell? ⟨w.heap.size, 1, none⟩ = some (.slice none 0 0) := (h2.pull 1).cell 1; have b2 := (h2.pull 1).free 0; have b3 := (h2.pull 1).free 1)
  have h6 := (((h2.pull 1).set 0 (.int .i64 0)).set 1 (.slice none 0 0))
  generalize World.setCell _ _ _ = wz at h6 ⊢
  have c0 := h6.cell 0
  have c1 := h6.cell 1
  refine bodyPost_ret (v := .tuple #[.agg #[.int .i64 0, .slice none 0 0], .slice none 0 0, .int .i64 100]) (by simp [results, Try.results18, go_sem, c0, c1]) rfl ⟨rfl, ?_⟩
  exact h6.sel [1] 1
set_option maxHeartbeats 1000000 in
theorem rPolar_nil (w0 w : World) (l : List HP) (h : SL.St w0 l w) (v : Value) :
    Calls Try.prog 18 #[.pointer none, v] w fun e w' =>
      e = .returned (.tuple #[.agg #[.int .i64 0, .slice none 0 0], .slice none 0 0, .int .i64 2]) ∧ SL.St w0 l w' := by
  have h2 := h.alloc (.cells #[.int .i64 0, .slice none 0 0] 33)
  have b0 := h2.cell 0
  have b1 := h2.cell 1
  have b2 := h2.free 0
  have b3 := h2.free 1
  clear h
  go_enter Try.func18, Try.ntmps18
  go_wp2_with fail
  refine bodyPost_ret (v := .tuple #[.agg #[.int .i64 0, .slice none 0 0], .slice none 0 0, .int .i64 2]) (by simp [results, Try.results18, go_sem]) rfl ⟨rfl, ?_⟩
  exact h2.drop
end Go.Proofs.Ytjeopmiopinlgaa
