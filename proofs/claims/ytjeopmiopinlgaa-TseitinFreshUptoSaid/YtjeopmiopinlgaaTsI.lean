/- What is wanted: Polar's closure. -/
import Derived.Test.YtjeopmiopinlgaaTsH
set_option linter.unusedVariables false
set_option linter.unusedSimpArgs false
namespace Go.Proofs.Ytjeopmiopinlgaa
open Go Go.RowKit SL

theorem marks_length (l : List Nat) (w : List Nat) : (l.foldl markL w).length = w.length := by
  induction l generalizing w with
  | nil => rfl
  | cons x l ih => rw [List.foldl_cons, ih, markL_length]
theorem marks_lt (l : List Nat) {w : List Nat} (h : ∀ y ∈ w, y < 4) : ∀ y ∈ l.foldl markL w, y < 4 := by
  induction l generalizing w with
  | nil => exact h
  | cons x l ih => rw [List.foldl_cons]; exact ih (markL_lt h x)
theorem polStep_length (ns : Nodes) (w : List Nat) (n : Nat) : (polStep ns w n).length = w.length := by
  unfold polStep
  split
  · simp only
    split <;> split <;> simp [markL_length]
  · rfl
theorem polStep_lt (ns : Nodes) {w : List Nat} (h : ∀ y ∈ w, y < 4) (n : Nat) : ∀ y ∈ polStep ns w n, y < 4 := by
  unfold polStep
  split
  · simp only
    split <;> split <;> first | exact h | (repeat first | exact h | apply markL_lt)
  · exact h
/-- The backward pass over the end of the cone. -/
def polFrom (ns : Nodes) (w : List Nat) (l : List Nat) : List Nat := l.reverse.foldl (polStep ns) w
theorem polFrom_cons (ns : Nodes) (w : List Nat) (n : Nat) (l : List Nat) : polFrom ns w (n :: l) = polStep ns (polFrom ns w l) n := by simp [polFrom]
theorem polFrom_length (ns : Nodes) (w : List Nat) (l : List Nat) : (polFrom ns w l).length = w.length := by
  induction l with
  | nil => rfl
  | cons n l ih => rw [polFrom_cons, polStep_length, ih]
theorem polFrom_lt (ns : Nodes) {w : List Nat} (h : ∀ y ∈ w, y < 4) (l : List Nat) : ∀ y ∈ polFrom ns w l, y < 4 := by
  induction l with
  | nil => exact h
  | cons n l ih => rw [polFrom_cons]; exact polStep_lt ns ih n
theorem getD_lt4 {w : List Nat} (h : ∀ y ∈ w, y < 4) (i : Nat) : w.getD i 0 < 4 := by
  by_cases hi : i < w.length
  · rw [List.getD_eq_getElem?_getD, List.getElem?_eq_getElem hi]; exact h _ (List.getElem_mem hi)
  · rw [List.getD_eq_getElem?_getD, List.getElem?_eq_none (Nat.le_of_not_lt hi)]; decide
theorem bit1 (b : Nat) (h : b < 256) : (Go.bits .and .u8 (b : Int) 1 != 0) = decide (b &&& 1 ≠ 0) := by
  have := u8_and_nat b 1 h (by decide)
  rw [show ((1 : Nat) : Int) = 1 from rfl] at this
  rw [this]
  generalize b &&& 1 = c
  by_cases hc : c = 0 <;> simp [hc]
theorem bit2 (b : Nat) (h : b < 256) : (Go.bits .and .u8 (b : Int) 2 != 0) = decide (b &&& 2 ≠ 0) := by
  have := u8_and_nat b 2 h (by decide)
  rw [show ((2 : Nat) : Int) = 2 from rfl] at this
  rw [this]
  generalize b &&& 2 = c
  by_cases hc : c = 0 <;> simp [hc]

theorem pol_read {w0 w : World} {l : List HP} {gs kw kk n m A B : Nat} {W : List Nat}
    (h : SL.St w0 (Arr (cNat .u8) 5 (.slice (some ⟨gs, 0, none⟩) n n) W :: Blk kw (.cells #[.slice (some ⟨gs, 0, none⟩) n n] 86 (0, 0)) :: Blk kk (.cells #[.int .u32 (A : Nat), .int .u32 (B : Nat)] 91 (0, 0)) :: l) w) (hm : m < n) :
    w.cell? ⟨kw, 0, none⟩ = some (.slice (some ⟨gs, 0, none⟩) n n) ∧ w.cell? ⟨gs, m, none⟩ = some (.int .u8 (W.getD m 0 : Nat)) ∧ w.cell? ⟨kk, 0, none⟩ = some (.int .u32 (A : Nat)) ∧ w.cell? ⟨kk, 1, none⟩ = some (.int .u32 (B : Nat)) := by
  have hl := h.arr_lt.1
  have hg : W[m]? = some (W.getD m 0) := by rw [List.getD_eq_getElem?_getD, List.getElem?_eq_getElem (by omega)]; rfl
  exact ⟨(h.pull 1).cell 0, (h.arr_cell1 rfl m _ hg _ rfl).1, (h.pull 2).cell 0, (h.pull 2).cell 1⟩

set_option maxRecDepth 100000 in
set_option maxHeartbeats 8000000 in
theorem pol1_walk (w0 w : World) (l : List HP) (g kg kr : Nat) (ns : Nodes) (K roots : List Nat) (vr vc : Value) (h : SL.St w0 (Arr (cNat .i64) 3 vc K :: Graph g ns :: Blk kg (.cells #[.pointer (some ⟨g, 0, none⟩)] 25 (0, 0)) :: Blk kr (.cells #[vr] 24 (0, 0)) :: l) w)
    (hw : Wf ns) (hl : ns.length ≤ 1073741824) (hmem : ∀ m ∈ K, m < ns.length) (hr : Ent l (Rd (cNat .u32) vr roots)) (hx : ∀ y ∈ roots, y < 2 * ns.length) :
    Calls Try.prog 42 #[vc, .pointer (some ⟨kg, 0, none⟩), .pointer (some ⟨kr, 0, none⟩)] w fun e w' =>
      ∃ vw, e = .returned vw ∧ SL.St w0 (Arr (cNat .u8) 5 vw (polFrom ns (roots.foldl markL (List.replicate ns.length 0)) K) :: Arr (cNat .i64) 3 vc K :: Graph g ns :: Blk kg (.cells #[.pointer (some ⟨g, 0, none⟩)] 25 (0, 0)) :: Blk kr (.cells #[vr] 24 (0, 0)) :: l) w' := by
  have hmf : ∀ (fn : Fn) (first cap : Array Value) (w : World), (Instr.makeFunc fn first cap).run Try.prog w = .ok (.func fn first cap) w := fun _ _ _ _ => rfl
  have g0 := (h.pull 2).cell 0
  have g1 := (h.pull 3).cell 0
  simp at g0 g1
  obtain ⟨Ac, cc, rfl, hmc, -⟩ := h.rd
  obtain ⟨Ar, cr, hv, hmr, -⟩ := hr.use (h.sel [] 4)
  subst hv
  unfold maxLen at hmc hmr
  obtain ⟨-, g2, -⟩ := allocs g1
  have hmk := run_make_row' (P := Try.prog) 86 5 (.int .u8 0) 1 Try.underlying86 infoU8 rfl .i64 .i64 ns.length (by omega) (by omega)
  have h2 := ((h.alloc (.cells (madeCells #[Value.int .u8 0] ns.length) 5)).arr_made (d := cNat .u8) rfl (x := 0) rfl (by unfold maxLen; omega)).alloc (.cells #[.slice (some ⟨w.heap.size, 0, none⟩) ns.length ns.length] 86)
  simp only [World.size_alloc] at h2
  generalize hWW : roots.foldl markL (List.replicate ns.length 0) = W0
  have HWW := Lib.hid hWW; clear hWW
  go_enter Try.func42, Try.ntmps42
  go_wp2_with (go_at_call 19; refine (Nodes_walk w0 _ _ g ns (h.pull 1)).mono ?_; rintro e w2 ⟨rfl, rfl⟩)
  generalize hkw : w.heap.size + 1 = kw at h2 ⊢
  generalize w.heap.size = gs at h2 ⊢
  generalize ((World.alloc w _).alloc _) = w2 at h2 ⊢
  clear hmk h g0 g1 g2 hkw
  have h3 := h2.swap
  clear h2
  have hW0 : ∀ y ∈ List.replicate ns.length 0, y < 4 := fun y hy => by rw [(List.mem_replicate.1 hy).2]; decide
  go_loopg [20] roots.length (fun k i wr => ∃ j : Nat, j ≤ roots.length ∧ k = roots.length - j ∧ i = .int .i64 j ∧ SL.St w0 (Arr (cNat .u8) 5 (.slice (some ⟨gs, 0, none⟩) ns.length ns.length) ((roots.take j).foldl markL (List.replicate ns.length 0)) :: Blk kw (.cells #[.slice (some ⟨gs, 0, none⟩) ns.length ns.length] 86 (0, 0)) :: Arr (cNat .i64) 3 (.slice Ac K.length cc) K :: Graph g ns :: Blk kg (.cells #[.pointer (some ⟨g, 0, none⟩)] 25 (0, 0)) :: Blk kr (.cells #[.slice Ar roots.length cr] 24 (0, 0)) :: l) wr)
  case atStart => exact ⟨0, Nat.zero_le _, rfl, rfl, h3⟩
  case round =>
    clear h3
    obtain ⟨j, hj, hgk, rfl, hsr⟩ := hrel
    subst hgk
    by_cases hlt : j < roots.length
    · obtain ⟨A', c', hv, -, hc⟩ := hr.use (hsr.sel [] 6)
      obtain ⟨ad, hA', hcell⟩ := rd_at hc j hlt
      obtain rfl : Ar = some ad := by
        have : A' = Ar := by injection hv with h1; exact h1.symm
        rw [← this]; exact hA'
      have hxj := hx _ (List.getElem_mem hlt)
      have HT := Lib.hid (show (roots.take (j + 1)).foldl markL (List.replicate ns.length 0) = markL ((roots.take j).foldl markL (List.replicate ns.length 0)) roots[j] by
        rw [List.take_succ_eq_append_getElem hlt, List.foldl_append]; rfl)
      have hlt4 := marks_lt (roots.take j) hW0
      clear hc hv hA'
      generalize (roots.take j).foldl markL (List.replicate ns.length 0) = W at *
      generalize roots[j] = x at *
      have HLT := Lib.hid hlt4; clear hlt4 hW0
      go_wp2_with (go_at_call 43; refine (mark_walk w0 _ _ gs kw ns.length W hsr hl HLT.out _ (by omega)).mono ?_; rintro e w2 ⟨rfl, h2⟩)
      go_roundg (roots.length - (j + 1))
      case measure => omega
      case rel => exact ⟨j + 1, by omega, rfl, by go_num, by rw [HT.out]; exact h2⟩
    · obtain rfl : j = roots.length := by omega
      rw [List.take_length] at hsr
      have hM0 := marks_lt roots hW0
      have hML := marks_length roots (List.replicate ns.length 0)
      rw [List.length_replicate] at hML
      rw [HWW.out] at hsr hM0 hML
      clear hW0
      go_wp2_with fail
      go_loopg [9] K.length (fun k i wr => ∃ j : Nat, j ≤ K.length ∧ k = j ∧ i = .int .i64 ((j : Int) - 1) ∧ SL.St w0 (Arr (cNat .u8) 5 (.slice (some ⟨gs, 0, none⟩) ns.length ns.length) (polFrom ns W0 (K.drop j)) :: Blk kw (.cells #[.slice (some ⟨gs, 0, none⟩) ns.length ns.length] 86 (0, 0)) :: Arr (cNat .i64) 3 (.slice Ac K.length cc) K :: Graph g ns :: Blk kg (.cells #[.pointer (some ⟨g, 0, none⟩)] 25 (0, 0)) :: Blk kr (.cells #[.slice Ar roots.length cr] 24 (0, 0)) :: l) wr)
      case atStart => exact ⟨K.length, Nat.le_refl _, rfl, rfl, by rw [List.drop_length]; exact hsr⟩
      case round =>
        clear hsr
        obtain ⟨j, hj, hgk, rfl, hsr⟩ := hrel
        have hgk := hgk.symm
        subst hgk
        by_cases h0 : j = 0
        · subst h0
          rw [List.drop_zero] at hsr
          have kc := (hsr.pull 1).cell 0
          simp at kc
          have HM0 := Lib.hid hM0; have HML := Lib.hid hML; clear hM0 hML
          go_wp2_with fail
          go_ret
          exact ⟨_, rfl, hsr.swap.drop⟩
        · obtain ⟨j, rfl⟩ : ∃ m, j = m + 1 := ⟨j - 1, by omega⟩
          have hlt : j < K.length := by omega
          rw [show ((j + 1 : Nat) : Int) - 1 = (j : Int) by omega]
          obtain ⟨A', c', hv, -, hc⟩ := (hsr.pull 2).rd
          obtain ⟨ad, hA', hcell⟩ := rd_at hc j hlt
          obtain rfl : Ac = some ad := by
            have : A' = Ac := by injection hv with h1; exact h1.symm
            rw [← this]; exact hA'
          have HT := Lib.hid (show polFrom ns W0 (K.drop j) = polStep ns (polFrom ns W0 (K.drop (j + 1))) K[j] by rw [List.drop_eq_getElem_cons hlt, polFrom_cons])
          have hlt4 := polFrom_lt ns hM0 (K.drop (j + 1))
          have hmj := hmem _ (List.getElem_mem hlt)
          have kc := (hsr.pull 4).cell 0
          simp at kc
          clear hc hv hA' h0
          generalize polFrom ns W0 (K.drop (j + 1)) = W at *
          generalize K[j] = n at *
          have HLT := Lib.hid hlt4; have HM0 := Lib.hid hM0; have HML := Lib.hid hML; clear hlt4 hM0 hML
          go_wp2_with fail
          refine (Node_walk w0 wr _ g ns (hsr.pull 3) n hmj hl).mono ?_
          rintro e w2 ⟨rfl, h2⟩
          have hgn := hw.2 n hmj
          have hpl : polStep ns W n = if (nodeM ns n).1 = 2 then
              (if (if W.getD n 0 &&& 1 ≠ 0 then markL (markL W (nodeM ns n).2.1) (nodeM ns n).2.2 else W).getD n 0 &&& 2 ≠ 0 then markL (markL (if W.getD n 0 &&& 1 ≠ 0 then markL (markL W (nodeM ns n).2.1) (nodeM ns n).2.2 else W) (notL (nodeM ns n).2.1)) (notL (nodeM ns n).2.2)
                else (if W.getD n 0 &&& 1 ≠ 0 then markL (markL W (nodeM ns n).2.1) (nodeM ns n).2.2 else W)) else W := rfl
          generalize polStep ns W n = PS at hpl HT
          by_cases hg : isGate ns n = true
          · have hng : nodeM ns n = (2, (nd0 ns n).1, (nd0 ns n).2) := nodeM_gate hg
            have ho := hgn hg
            have hA : (nd0 ns n).1 / 2 < ns.length := by have := ho.1; unfold opA at this; unfold nd0; omega
            have hB : (nd0 ns n).2 / 2 < ns.length := by have := ho.2; unfold opB at this; unfold nd0; omega
            rw [hng] at hpl
            rw [hng]
            simp only [if_true] at hpl
            clear hng hgn hg ho
            generalize (nd0 ns n).1 = A at *
            generalize (nd0 ns n).2 = B at *
            have hnA : notL A / 2 < ns.length := by unfold notL; split <;> omega
            have hnB : notL B / 2 < ns.length := by unfold notL; split <;> omega
            have h3 := h2.alloc (.cells #[.int .u32 (A : Nat), .int .u32 (B : Nat)] 91)
            have h4 := h3.sel [2, 3, 0]
            obtain ⟨q0, -⟩ := allocs (show w2.cell? ⟨kw, 0, none⟩ = some (.slice (some ⟨gs, 0, none⟩) ns.length ns.length) from (h2.pull 2).cell 0)
            have hWl : W.length = ns.length := (h2.pull 1).arr_lt.1.symm
            have hWg : W[n]? = some (W.getD n 0) := by rw [List.getD_eq_getElem?_getD, List.getElem?_eq_getElem (by omega)]; rfl
            obtain ⟨q1, -⟩ := allocs ((h2.pull 1).arr_cell1 rfl n _ hWg _ rfl).1
            clear h3 h2 hsr hWl hWg
            have d1 := bit1 (W.getD n 0) (by have := getD_lt4 HLT.out n; omega)
            obtain ⟨kk, hkk⟩ : ∃ kk, kk = w2.heap.size := ⟨_, rfl⟩
            rw [← hkk] at h4
            have HKK := Lib.hid hkk; clear hkk
            have fin : ∀ (w9 : World), SL.St w0 (Arr (cNat .u8) 5 (.slice (some ⟨gs, 0, none⟩) ns.length ns.length) PS :: Blk kw (.cells #[.slice (some ⟨gs, 0, none⟩) ns.length ns.length] 86 (0, 0)) :: Blk kk (.cells #[.int .u32 (A : Nat), .int .u32 (B : Nat)] 91 (0, 0)) :: Graph g ns :: Arr (cNat .i64) 3 (.slice (some ad) K.length cc) K :: Blk kg (.cells #[.pointer (some ⟨g, 0, none⟩)] 25 (0, 0)) :: Blk kr (.cells #[.slice Ar roots.length cr] 24 (0, 0)) :: l) w9 →
                SL.St w0 (Arr (cNat .u8) 5 (.slice (some ⟨gs, 0, none⟩) ns.length ns.length) (polFrom ns W0 (K.drop j)) :: Blk kw (.cells #[.slice (some ⟨gs, 0, none⟩) ns.length ns.length] 86 (0, 0)) :: Arr (cNat .i64) 3 (.slice (some ad) K.length cc) K :: Graph g ns :: Blk kg (.cells #[.pointer (some ⟨g, 0, none⟩)] 25 (0, 0)) :: Blk kr (.cells #[.slice Ar roots.length cr] 24 (0, 0)) :: l) w9 := fun w9 h9 => by
              rw [HT.out]; exact h9.sel [0, 1, 4, 3] 1
            have FIN := Lib.hid fin; clear fin HT
            have h5 : SL.St w0 (Arr (cNat .u8) 5 (.slice (some ⟨gs, 0, none⟩) ns.length ns.length) W :: Blk kw (.cells #[.slice (some ⟨gs, 0, none⟩) ns.length ns.length] 86 (0, 0)) :: Blk kk (.cells #[.int .u32 (A : Nat), .int .u32 (B : Nat)] 91 (0, 0)) :: Graph g ns :: Arr (cNat .i64) 3 (.slice (some ad) K.length cc) K :: Blk kg (.cells #[.pointer (some ⟨g, 0, none⟩)] 25 (0, 0)) :: Blk kr (.cells #[.slice Ar roots.length cr] 24 (0, 0)) :: l) (w2.alloc (.cells #[.int .u32 (A : Nat), .int .u32 (B : Nat)] 91)) := h4
            clear h4
            have d2 := bit2 (W.getD n 0) (by have := getD_lt4 HLT.out n; omega)
            generalize hbb : W.getD n 0 = b at *
            have HBB := Lib.hid hbb; clear hbb
            by_cases b1 : b &&& 1 ≠ 0
            · rw [decide_eq_true b1] at d1
              rw [if_pos b1] at hpl
              clear d2
              have HP := Lib.hid hpl
              clear hpl b1
              go_wp2_with fail
              refine (mark_walk w0 _ _ gs kw ns.length W h5 hl HLT.out _ hA).mono ?_
              rintro e w4 ⟨rfl, h6⟩
              clear h5 q0 q1 d1
              have hl1 := markL_lt HLT.out A
              have HL1 := Lib.hid hl1; clear hl1
              obtain ⟨r0, r1, r2, r3⟩ := pol_read h6 hmj
              rw [HKK.out] at r2 r3
              go_wp2_with fail
              refine (mark_walk w0 _ _ gs kw ns.length _ h6 hl HL1.out _ hB).mono ?_
              rintro e w5 ⟨rfl, h7⟩
              clear h6 r0 r1 r2 r3
              have HL2 := Lib.hid (markL_lt HL1.out B)
              generalize markL (markL W A) B = W1 at *
              have d2 := bit2 (W1.getD n 0) (by have := getD_lt4 HL2.out n; omega)
              obtain ⟨r0, r1, r2, r3⟩ := pol_read h7 hmj
              rw [HKK.out] at r2 r3
              generalize hbb2 : W1.getD n 0 = b2v at *
              have HBB2 := Lib.hid hbb2; clear hbb2
              by_cases b2 : b2v &&& 2 ≠ 0
              · rw [decide_eq_true b2] at d2
                have HP2 := Lib.hid (HP.out.trans (if_pos b2)); clear HP b2
                go_wp2_with fail
                refine (not_walk _ A (by omega)).mono ?_
                rintro e w6 ⟨rfl, rfl⟩
                go_wp2_with fail
                refine (mark_walk w0 _ _ gs kw ns.length _ h7 hl HL2.out _ hnA).mono ?_
                rintro e w6 ⟨rfl, h8⟩
                clear h7 r0 r1 r2 r3 d2
                have HL3 := Lib.hid (markL_lt HL2.out (notL A))
                obtain ⟨r0, r1, r2, r3⟩ := pol_read h8 hmj
                rw [HKK.out] at r2 r3
                go_wp2_with fail
                refine (not_walk _ B (by omega)).mono ?_
                rintro e w7 ⟨rfl, rfl⟩
                go_wp2_with fail
                refine (mark_walk w0 _ _ gs kw ns.length _ h8 hl HL3.out _ hnB).mono ?_
                rintro e w7 ⟨rfl, h9⟩
                clear h8 r0 r1 r2 r3
                go_wp2_with fail
                go_roundg j
                case measure => omega
                case rel => exact ⟨j, by omega, rfl, rfl, FIN.out _ (by rw [HP2.out]; exact h9)⟩
              · rw [decide_eq_false b2] at d2
                have HP2 := Lib.hid (HP.out.trans (if_neg b2)); clear HP b2
                go_wp2_with fail
                go_roundg j
                case measure => omega
                case rel => exact ⟨j, by omega, rfl, rfl, FIN.out _ (by rw [HP2.out]; exact h7)⟩
            · rw [decide_eq_false b1] at d1
              rw [if_neg b1, HBB.out] at hpl
              have HP := Lib.hid hpl
              clear hpl b1
              by_cases b2 : b &&& 2 ≠ 0
              · rw [decide_eq_true b2] at d2
                have HP2 := Lib.hid (HP.out.trans (if_pos b2)); clear HP b2
                go_wp2_with fail
                refine (not_walk _ A (by omega)).mono ?_
                rintro e w6 ⟨rfl, rfl⟩
                go_wp2_with fail
                refine (mark_walk w0 _ _ gs kw ns.length _ h5 hl HLT.out _ hnA).mono ?_
                rintro e w6 ⟨rfl, h8⟩
                clear h5 q0 q1 d1 d2
                have HL3 := Lib.hid (markL_lt HLT.out (notL A))
                obtain ⟨r0, r1, r2, r3⟩ := pol_read h8 hmj
                rw [HKK.out] at r2 r3
                go_wp2_with fail
                refine (not_walk _ B (by omega)).mono ?_
                rintro e w7 ⟨rfl, rfl⟩
                go_wp2_with fail
                refine (mark_walk w0 _ _ gs kw ns.length _ h8 hl HL3.out _ hnB).mono ?_
                rintro e w7 ⟨rfl, h9⟩
                clear h8 r0 r1 r2 r3
                go_wp2_with fail
                go_roundg j
                case measure => omega
                case rel => exact ⟨j, by omega, rfl, rfl, FIN.out _ (by rw [HP2.out]; exact h9)⟩
              · rw [decide_eq_false b2] at d2
                have HP2 := Lib.hid (HP.out.trans (if_neg b2)); clear HP b2
                go_wp2_with fail
                go_roundg j
                case measure => omega
                case rel => exact ⟨j, by omega, rfl, rfl, FIN.out _ (by rw [HP2.out]; exact h5)⟩
          · have hk := nodeM_not (ns := ns) (n := n) (by simpa using hg)
            have hk2 : (((nodeM ns n).1 : Int) != 2) = true := by simp; omega
            rw [if_neg hk] at hpl
            clear hk hg hgn
            generalize nodeM ns n = M at *
            obtain ⟨M1, A, B⟩ := M
            have HP := Lib.hid hpl; clear hpl
            simp only at hk2 ⊢
            have h3 := h2.alloc (.cells #[.int .u32 (A : Nat), .int .u32 (B : Nat)] 91)
            go_wp2_with fail
            go_roundg j
            case measure => omega
            case rel => exact ⟨j, by omega, rfl, rfl, by rw [HT.out, HP.out]; exact h3.sel [2, 3, 4, 1, 5, 6] 1⟩
end Go.Proofs.Ytjeopmiopinlgaa
