/- TseitinFewer: Polar's clauses are some of Encode's, in the same order. -/
import Derived.Test.YtjeopmiopinlgaaTsLive
set_option linter.unusedVariables false
set_option linter.unusedSimpArgs false
namespace Go.Proofs.Ytjeopmiopinlgaa
open Go Go.RowKit SL

theorem coneM_length (ns : Nodes) (roots : List Nat) (h0 : ns.length ≠ 0) : (coneM ns roots).length + 1 ≤ ns.length := by
  have h := meetAll_sum ns roots (cone0 ns)
  have h1 : (cone0 ns).1.count false + 1 = (List.replicate ns.length false).count false := count_set (by simp [List.getD_eq_getElem?_getD, Nat.pos_of_ne_zero h0])
  rw [List.count_replicate_self] at h1
  have h2 : (cone0 ns).2.length = 0 := rfl
  unfold coneM
  omega
theorem clausesM_length (ns : Nodes) (wants roots : List Nat) : (clausesM ns wants roots).length ≤ 3 * (coneM ns roots).length + roots.length := by
  unfold clausesM
  rw [List.length_append]
  have h1 := gatesCl_length (varsM ns.length (coneM ns roots)) wants ns (coneM ns roots)
  have h2 := rootsCl_length (varsM ns.length (coneM ns roots)) roots
  omega
theorem encodeW_get {ns : Nodes} {K : List Nat} (hK : ∀ m ∈ K, m < ns.length) : ∀ n ∈ K, (encodeW ns K).getD n 0 = 3 := by
  revert hK
  refine snocInd (P := fun K => (∀ m ∈ K, m < ns.length) → ∀ n ∈ K, (encodeW ns K).getD n 0 = 3) ?_ ?_ K
  · intro _ n hn; cases hn
  · intro l a ih hK n hn
    rw [encodeW_snoc, List.getD_eq_getElem?_getD, List.getElem?_set]
    by_cases e : a = n
    · rw [if_pos e, if_pos (by rw [encodeW_length, e]; exact hK n hn)]; rfl
    · rw [if_neg e, ← List.getD_eq_getElem?_getD]
      refine ih (fun m hm => hK m (by simp [hm])) n ?_
      rcases List.mem_append.1 hn with h | h
      · exact h
      · exact absurd (List.mem_singleton.1 h).symm e
theorem gateCl_sub (vs wants w3 : List Nat) (ns : Nodes) (n : Nat) (h : w3.getD n 0 = 3) : List.Sublist (gateCl vs wants ns n) (gateCl vs w3 ns n) := by
  unfold gateCl
  split
  · refine List.Sublist.append ?_ ?_
    · rw [h, if_pos (show (3 &&& 1 : Nat) ≠ 0 by decide)]
      split
      · exact List.Sublist.refl _
      · exact List.nil_sublist _
    · rw [h, if_pos (show (3 &&& 2 : Nat) ≠ 0 by decide)]
      split
      · exact List.Sublist.refl _
      · exact List.nil_sublist _
  · exact List.Sublist.refl _
theorem gatesCl_sub (vs wants w3 : List Nat) (ns : Nodes) : ∀ (l : List Nat), (∀ n ∈ l, w3.getD n 0 = 3) → List.Sublist (gatesCl vs wants ns l) (gatesCl vs w3 ns l)
  | [], _ => List.Sublist.refl _
  | n :: l, h => by
    simp only [gatesCl, List.flatMap_cons]
    exact List.Sublist.append (gateCl_sub vs wants w3 ns n (h n List.mem_cons_self)) (gatesCl_sub vs wants w3 ns l fun m hm => h m (List.mem_cons_of_mem _ hm))
theorem clausesM_sub {ns : Nodes} (hw : Wf ns) (wants roots : List Nat) (hx : ∀ y ∈ roots, y < 2 * ns.length) : List.Sublist (clausesM ns wants roots) (clausesM ns (encodeW ns (coneM ns roots)) roots) :=
  List.Sublist.append (gatesCl_sub _ _ _ _ _ (encodeW_get fun m hm => ((coneM_lined hw roots hx).1.mem m hm).2)) (List.Sublist.refl _)
theorem someM_lt {p : Nodes × List Nat} {j : Nat} (h : OkT p j) (which : List Int) : ∀ y ∈ someM p.2 which [], y < 2 * p.1.length := by
  intro y hy
  unfold someM at hy
  rw [List.append_nil] at hy
  obtain ⟨i, -, rfl⟩ := List.mem_map.1 hy
  exact pickM_lt (by have := h.len; omega) h.lits i
theorem someM_length (ls : List Nat) (which : List Int) (odd : List Nat) : (someM ls which odd).length = which.length + odd.length := by simp [someM]
theorem rd_nil {w : World} {k : IntKind} : Rd (cNat k) (.slice none 0 0) [] w := ⟨none, 0, rfl, Nat.zero_le _, fun i x hx => by simp at hx⟩

set_option maxRecDepth 100000 in
set_option maxHeartbeats 8000000 in
theorem fewer_walk (W : World) (vs vw : Value) (script : List Mk3) (which : List Int) (hr : Ent [Old W] (Rd cMade3 vs script)) (hin : ∀ s ∈ script, MkIn3 s) (hw : Ent [Old W] (Rd (cInt .i64) vw which)) (hwi : ∀ i ∈ which, In64' i) (hsz : 4 * script.length + 1 * which.length ≤ 1048576) :
    Calls Try.prog 5 #[vs, vw] W fun e w' => e = .returned (.bool true) ∧ SL.St W [Old W] w' := by
  have h := SL.St.start W
  have ok := madeT_ok script (by omega)
  go_enter Try.func5, Try.ntmps5
  go_wp2_with fail
  refine (made_t W W _ h vs script hr hin (by omega)).mono ?_
  rintro e w1 ⟨g, r, vo, rfl, h1⟩
  have hro := someM_lt ok which
  have hrl := someM_length (madeT script).2 which []
  have hsl := ok.small; have hgd := ok.good; have hlen := ok.len; have hlits := ok.lits
  generalize madeT script = p at *
  obtain ⟨ns, ls⟩ := p
  simp only at *
  rw [List.length_nil, Nat.add_zero] at hrl
  go_wp2_with fail
  refine (live_walk W w1 _ h1).mono ?_
  rintro e w2 ⟨rfl, h2⟩
  clear h h1
  go_wp2_with fail
  refine (some_walk W w2 _ h2 vo vw (.slice none 0 0) ls which [] Ent.rd (Ent.tail (Ent.tail (Ent.tail hw))) (fun _ _ _ => rd_nil) (fun y hy => by have := hlits y hy; omega) (by omega) (by omega) hwi (by omega) (by simp)).mono ?_
  rintro e w3 ⟨vr, rfl, h3⟩
  clear h2
  have hsub := clausesM_sub hgd.wf (polarW ns (someM ls which [])) _ hro
  have hKl := coneM_length ns (someM ls which []) hgd.pos
  have hc1 := clausesM_length ns (encodeW ns (coneM ns (someM ls which []))) (someM ls which [])
  have hc2 := clausesM_length ns (polarW ns (someM ls which [])) (someM ls which [])
  generalize someM ls which [] = roots at *
  have h4 : SL.St W (Graph g ns :: Arr (cNat .u32) 42 vr roots :: [Old W]) w3 := h3.sel [2, 0, 4] 2
  clear h3
  go_wp2_with fail
  refine (Encode_walk W w3 _ g ns h4 hgd.wf (by omega) vr roots Ent.rd hro (by omega) (by omega)).mono ?_
  rintro e w4 ⟨vf, vc, rfl, h5⟩
  obtain ⟨Af, cf, rfl, _⟩ := h5.rd2.at
  generalize clausesM ns (encodeW ns (coneM ns roots)) roots = E at *
  go_wp2_with fail
  have h6 := (SL.St.alloc h5 (.cells #[.int .i64 (coneM ns roots).length, .slice Af E.length cf] 33)).sel [3, 4, 0, 1] 1
  clear h4 h5
  refine (Polar_walk W _ _ g ns h6 hgd.wf (by omega) vr roots Ent.rd hro (by omega) (by omega)).mono ?_
  rintro e w5 ⟨vp, vd, rfl, h7⟩
  obtain ⟨Ap, cp, rfl, _⟩ := h7.rd2.at
  generalize clausesM ns (polarW ns roots) roots = P at *
  have h8 : SL.St W (Blk w5.heap.size (.cells #[.int .i64 (coneM ns roots).length, .slice Ap P.length cp] 33 (0, 0)) :: Arr2 (cInt .i64) 3 60 (.slice Ap P.length cp) P :: Blk w4.heap.size (.cells #[.int .i64 (coneM ns roots).length, .slice Af E.length cf] 33 (0, 0)) :: Arr2 (cInt .i64) 3 60 (.slice Af E.length cf) E :: [Old W]) _ := (SL.St.alloc h7 (.cells #[.int .i64 (coneM ns roots).length, .slice Ap P.length cp] 33)).sel [0, 1, 5, 6] 3
  have nw := fun w => no_walk w 0 (by decide) (by decide)
  have hEb : E.length ≤ 1048576 := by omega
  have hPb : P.length ≤ 1048576 := by omega
  clear h6 h7 hro hrl hgd hlits
  go_wp2_with (go_at_call 14; refine (nw _).mono ?_; rintro e w' ⟨rfl, rfl⟩)
  generalize (coneM ns roots).length = kl at *
  generalize w5.heap.size = FP at *
  generalize w4.heap.size = FE at *
  generalize World.alloc w5 _ = w6 at h8 ⊢
  go_loopg [16, 17] P.length (fun k at_ i wr => ∃ a j : Nat, a ≤ E.length ∧ j ≤ P.length ∧ k = P.length - j ∧ at_ = .int .i64 a ∧ i = .int .i64 j ∧ List.Sublist (P.drop j) (E.drop a) ∧ SL.St W (Blk FP (.cells #[.int .i64 kl, .slice Ap P.length cp] 33 (0, 0)) :: Arr2 (cInt .i64) 3 60 (.slice Ap P.length cp) P :: Blk FE (.cells #[.int .i64 kl, .slice Af E.length cf] 33 (0, 0)) :: Arr2 (cInt .i64) 3 60 (.slice Af E.length cf) E :: [Old W]) wr)
  case atStart => exact ⟨0, 0, Nat.zero_le _, Nat.zero_le _, rfl, rfl, rfl, hsub, h8⟩
  case round =>
    clear h8 hsub
    obtain ⟨a, j, ha, hj, hgk, rfl, rfl, hS, hsr⟩ := hrel
    subst hgk
    have p1 : wr.cell? ⟨FP, 1, none⟩ = some (.slice Ap P.length cp) := hsr.cell 1
    by_cases hlt : j < P.length
    · go_wp2_with fail
      clear p1
      obtain ⟨wo, rfl⟩ : ∃ wo : World, wo = wr := ⟨_, rfl⟩
      go_loopg [16] (E.length - a) (fun k at_ wr => ∃ a : Nat, a ≤ E.length ∧ k = E.length - a ∧ at_ = .int .i64 a ∧ List.Sublist (P.drop j) (E.drop a) ∧ SL.St W (Blk FP (.cells #[.int .i64 kl, .slice Ap P.length cp] 33 (0, 0)) :: Arr2 (cInt .i64) 3 60 (.slice Ap P.length cp) P :: Blk FE (.cells #[.int .i64 kl, .slice Af E.length cf] 33 (0, 0)) :: Arr2 (cInt .i64) 3 60 (.slice Af E.length cf) E :: [Old W]) wr)
      case atStart => exact ⟨a, ha, rfl, rfl, hS, hsr⟩
      case round =>
        clear hS hsr ha
        obtain ⟨a, ha, hgk, rfl, hS, hsr⟩ := hrel
        subst hgk
        have hal : a < E.length := by
          by_cases h1 : a < E.length
          · exact h1
          · exfalso
            rw [show E.drop a = [] from List.drop_eq_nil_of_le (by omega), List.drop_eq_getElem_cons hlt] at hS
            exact absurd (List.sublist_nil.1 hS) (List.cons_ne_nil _ _)
        rw [List.drop_eq_getElem_cons hlt, List.drop_eq_getElem_cons hal] at hS
        have p1 : wr.cell? ⟨FP, 1, none⟩ = some (.slice Ap P.length cp) := hsr.cell 1
        have p2 : wr.cell? ⟨FE, 1, none⟩ = some (.slice Af E.length cf) := (hsr.pull 2).cell 1
        obtain ⟨A1, c1, e1, -, hP⟩ := (hsr.pull 1).rd2.at
        obtain ⟨ad, B1, n1, cc1, hA1, hc1, hr1⟩ := hP j _ (List.getElem?_eq_getElem hlt)
        obtain rfl : Ap = some ad := by rw [← hA1]; injection e1
        obtain ⟨A2, c2, e2, -, hE⟩ := (hsr.pull 3).rd2.at
        obtain ⟨bd, B2, n2, cc2, hA2, hc2, hr2⟩ := hE a _ (List.getElem?_eq_getElem hal)
        obtain rfl : Af = some bd := by rw [← hA2]; injection e2
        clear hP hE e1 e2 hA1 hA2
        have sq := fun n => same_q (wr.drewN n) _ _ _ _ (Rd.drewQ hr2 n) (Rd.drewQ hr1 n)
        clear hr1 hr2
        have d1 : decide ((a : Int) < (E.length : Int)) = true := by simp; omega
        generalize hPx : P[j] = x at *
        have HPX := Lib.hid hPx; clear hPx
        generalize E[a] = y at *
        by_cases hxy : y = x
        · have hS2 := Lib.hid (show List.Sublist (P.drop (j + 1)) (E.drop (a + 1)) by subst hxy; exact List.cons_sublist_cons.1 hS)
          have hd : decide (y = x) = true := decide_eq_true hxy
          clear hS hxy
          generalize decide (y = x) = b at *
          subst hd
          have d2 : ((a : Int) == (E.length : Int)) = false := by simp; omega
          go_wp2_with fail
          go_quiet ((go_at_call 25; exact Calls.quiet_of (sq _)))
          have h9 := SL.St.drewN hsr nq
          clear hsr
          have p3 : wr.cell? ⟨FE, 1, none⟩ = some (.slice (some bd) E.length cf) := p2
          go_wp2_with fail
          go_roundg (P.length - (j + 1))
          case measure => omega
          case rel => exact ⟨a + 1, j + 1, by omega, by omega, rfl, by go_num, by go_num, hS2.out, h9⟩
        · have hS2 := Lib.hid (show List.Sublist (x :: P.drop (j + 1)) (E.drop (a + 1)) by
            rcases List.sublist_cons_iff.1 hS with h1 | ⟨r, h1, h2⟩
            · exact h1
            · exact absurd (List.cons.inj h1).1.symm hxy)
          have hd : decide (y = x) = false := decide_eq_false hxy
          clear hS hxy
          generalize decide (y = x) = b at *
          subst hd
          go_wp2_with fail
          go_quiet ((go_at_call 25; exact Calls.quiet_of (sq _)))
          have h9 := SL.St.drewN hsr nq
          clear hsr
          go_wp2_with fail
          go_roundg (E.length - (a + 1))
          case measure => omega
          case rel => exact ⟨a + 1, by omega, rfl, by go_num, by rw [List.drop_eq_getElem_cons hlt, HPX.out]; exact hS2.out, h9⟩
    · obtain rfl : j = P.length := by omega
      go_wp2_with fail
      go_ret
      exact ⟨rfl, hsr.sel [4] 4⟩
end Go.Proofs.Ytjeopmiopinlgaa
