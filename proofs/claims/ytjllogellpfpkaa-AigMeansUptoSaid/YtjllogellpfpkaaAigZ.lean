/- The law AigMeans. -/
import Derived.Test.YtjllogellpfpkaaAigT
import Derived.Test.YtjllogellpfpkaaAigX
set_option linter.unusedVariables false
set_option linter.unusedSimpArgs false
namespace Go.Proofs.Ytjllogellpfpkaa
open Go Go.RowKit SL

theorem nodeM_zero (ns : Nodes) : nodeM ns 0 = (0, 0, 0) := by simp [nodeM]
theorem nodeM_in {ns : Nodes} {n : Nat} (h0 : n ≠ 0) (hg : isGate ns n = false) : nodeM ns n = (1, (nd ns n).2, 0) := by
  have : (ns.getD n (0, 0)).1 = mark := by
    unfold isGate at hg; simp [h0] at hg; simpa [List.getD_eq_getElem?_getD] using hg
  unfold nodeM nd
  rw [if_neg h0, if_pos this]
theorem nodeM_gate {ns : Nodes} {n : Nat} (hg : isGate ns n = true) : nodeM ns n = (2, (nd ns n).1, (nd ns n).2) := by
  have h0 : n ≠ 0 := by rintro rfl; simp [isGate] at hg
  have : (ns.getD n (0, 0)).1 ≠ mark := by
    unfold isGate at hg; simp [h0] at hg; simpa [List.getD_eq_getElem?_getD] using hg
  unfold nodeM nd
  rw [if_neg h0, if_neg this]
theorem fitM_length (n : Nat) (row : List Bool) : (fitM n row).length = n := by unfold fitM; simp; omega
theorem means_law (script : List Mk) (hl : script.length ≤ 2097152) (row : List Bool) : evalM (madeM script).1 row (madeM script).2 = (wantM script row).1 := by
  obtain ⟨gd, hv⟩ := madeM_good script (by omega)
  obtain ⟨V, hV⟩ := exists_val gd.wf (fun i => row.getD i false)
  rw [(hv _ V hV row (fun _ => rfl)).1]
  exact evalM_val gd.wf (madeM_ok script).lits V hV bitOf rfl

set_option maxRecDepth 100000 in
set_option maxHeartbeats 4000000 in
theorem means_walk (w : World) (v : Value) (script : List Mk) (hr : Ent [Old w] (Rd cMade v script)) (hin : ∀ s ∈ script, MkIn s) (hl : script.length ≤ 2097152)
    (vw : Value) (inp : List Bool) (hri : Ent [Old w] (Rd cBool vw inp)) (hli : inp.length ≤ 2097152) :
    Calls Try.prog 4 #[v, vw] w fun e w' => e = .returned (.bool true) ∧ SL.St w [Old w] w' := by
  obtain ⟨gd, -⟩ := madeM_good script (by omega)
  have hcount := madeM_count script (by omega)
  have hok := madeM_ok script
  have hmeans := means_law script hl
  obtain ⟨A, c, hv, hm, -⟩ := hr.use (St.start w)
  subst hv
  go_enter Try.func4, Try.ntmps4
  go_wp2_with fail
  refine (New_walk w w _ (St.start w)).mono ?_
  rintro e w1 ⟨g, rfl, hs1⟩
  go_wp2_with fail
  refine (live_walk w w1 _ hs1).mono ?_
  rintro e w2 ⟨rfl, hs2⟩
  go_wp2_with fail
  refine (made2_walk w w2 _ g hs2 _ script hr hin (by omega)).mono ?_
  rintro e w3 ⟨vl, rfl, hs3⟩
  generalize madeM script = p at *
  obtain ⟨ns, ls⟩ := p
  simp only at gd hcount hs3 hmeans
  obtain ⟨hp0, hps, hpl, hpx⟩ := hok
  simp only at hp0 hps hpl hpx
  have hwf := gd.wf
  have hwi := gd.wfIn
  go_wp2_with fail
  refine (fit_walk w w3 _ g ns hs3.swap (by omega) _ inp (Ent.tail hri)).mono ?_
  rintro e w4 ⟨vr, rfl, hs4⟩
  have hfl := fitM_length (inputsOf ns).length inp
  generalize fitM (inputsOf ns).length inp = row at *
  go_wp2_with fail
  refine (Eval_walk w w4 _ g ns hs4.swap hwf hwi (by omega) _ row (fun _ _ h => h.rd) hfl _ ls (fun _ _ h => (h.pull 1).rd) hpx (by omega)).mono ?_
  rintro e w5 ⟨ve, rfl, hs5⟩
  rw [hmeans row] at hs5
  go_wp2_with (first | (go_at_call 12; refine (no_walk _ 0 (by decide) (by decide)).mono ?_; rintro e w' ⟨rfl, rfl⟩))
  refine (want_walk w w5 _ hs5 _ script (fun _ _ h => hr.use (h.sel [] 4)) hin (by omega) _ row (fun _ _ h => (h.pull 2).rd) (by omega)).mono ?_
  rintro e w6 ⟨vo, rfl, hs6⟩
  go_wp2_with fail
  refine (sameBools_walk w w6 _ hs6 _ _ (wantM script row).1 (wantM script row).1 (fun _ _ h => (h.pull 1).rd) (fun _ _ h => h.rd)).mono ?_
  rw [show decide ((wantM script row).1 = (wantM script row).1) = true from by simp]
  rintro e w7 ⟨rfl, hs7⟩
  have hs8 : SL.St w (Graph g ns :: [Old w]) w7 := hs7.sel [2] 4
  clear hs1 hs2 hs3 hs4 hs5 hs6 hs7
  have hN := Nodes_walk w w7 _ g ns hs8
  have hnl : ns.length ≤ 1073741824 := by omega
  generalize hn : ns.length = n at hN hnl
  have HN := Lib.hid hn; clear hn
  go_wp2_with (first | (go_at_call 16; refine hN.mono ?_; rintro e w' ⟨rfl, rfl⟩))
  clear hN hfl hpl hpx hp0 hps hcount hmeans
  go_loopg [12] n (fun k i wr => ∃ j : Nat, j ≤ n ∧ k = n - j ∧ i = .int .i64 j ∧ SL.St w (Graph g ns :: [Old w]) wr)
  case atStart => exact ⟨0, Nat.zero_le _, rfl, rfl, hs8⟩
  case round =>
    clear hs8
    obtain ⟨j, hj, hgk, rfl, hsr⟩ := hrel
    subst hgk
    by_cases hlt : j < n
    · have hnode := Node_walk w wr _ g ns hsr j (by rw [HN.out]; exact hlt) (by rw [HN.out]; exact hnl)
      by_cases h0 : j = 0
      · subst h0
        rw [nodeM_zero] at hnode
        go_wp2_with fail
        refine hnode.mono ?_
        clear hnode
        rintro e w9 ⟨rfl, hs9⟩
        have hs10 := hs9.alloc (.cells #[.int .u32 0, .int .u32 0] 46)
        go_wp2_with (first | (go_at_call 12; refine (no_walk _ 0 (by decide) (by decide)).mono ?_; rintro e w' ⟨rfl, rfl⟩))
        go_roundg (n - 1)
        case measure => omega
        case rel => exact ⟨1, by omega, rfl, by go_num, hs10.drop⟩
      · cases hg : isGate ns j with
        | false =>
          rw [nodeM_in h0 hg] at hnode
          have HH := Lib.hid h0; clear h0
          have e0 : ((j : Int) == 0) = false := by have := HH.out; simp; omega
          go_wp2_with fail
          refine hnode.mono ?_
          clear hnode
          rintro e w9 ⟨rfl, hs9⟩
          have hs10 := hs9.alloc (.cells #[.int .u32 ((nd ns j).2 : Nat), .int .u32 0] 46)
          go_wp2_with (first | (go_at_call 12; refine (no_walk _ 0 (by decide) (by decide)).mono ?_; rintro e w' ⟨rfl, rfl⟩))
          go_roundg (n - (j + 1))
          case measure => omega
          case rel => exact ⟨j + 1, by omega, rfl, by go_num, hs10.drop⟩
        | true =>
          rw [nodeM_gate hg] at hnode
          have HH := Lib.hid h0; clear h0
          have e0 : ((j : Int) == 0) = false := by have := HH.out; simp; omega
          obtain ⟨gA, gB, gAB, gAj, gBj⟩ := gd.gate j (by rw [HN.out]; exact hlt) hg
          have HU := Lib.hid (fun i (hi : i < j) (hgi : isGate ns i = true) => gd.uniq i j hi (by rw [HN.out]; exact hlt) hgi hg)
          generalize nd ns j = x at *
          obtain ⟨X, Y⟩ := x
          simp only at gA gB gAB gAj gBj hnode
          have qA : (X : Int) / 2 = ((X / 2 : Nat) : Int) := by omega
          have qB : (Y : Int) / 2 = ((Y / 2 : Nat) : Int) := by omega
          generalize X / 2 = qa at *
          generalize Y / 2 = qb at *
          have eAB : ((qa : Int) == (qb : Int)) = false := by rw [beq_eq_false_iff_ne]; omega
          go_wp2_with fail
          refine hnode.mono ?_
          clear hnode
          rintro e w9 ⟨rfl, hs9⟩
          have hs10 := hs9.alloc (.cells #[.int .u32 (X : Nat), .int .u32 (Y : Nat)] 46)
          go_wp2_with (first | (go_at_call 12; refine (no_walk _ 0 (by decide) (by decide)).mono ?_; rintro e w' ⟨rfl, rfl⟩))
          generalize w9.heap.size = kx at hs10 ⊢
          generalize World.alloc w9 _ = w10 at hs10 ⊢
          clear hs9
          have c0 : w10.cell? ⟨kx, 0, none⟩ = some (.int .u32 (X : Nat)) := hs10.cell 0
          have c1 : w10.cell? ⟨kx, 1, none⟩ = some (.int .u32 (Y : Nat)) := hs10.cell 1
          go_wp2_with fail
          simp only [show decide (j ≤ qa) = false from decide_eq_false (by omega), show decide (j ≤ qb) = false from decide_eq_false (by omega), Bool.or_false]
          clear c0 c1 e0 eAB qA qB
          go_loopg [16] j (fun k i wr => ∃ m : Nat, m ≤ j ∧ k = j - m ∧ i = .int .i64 m ∧ SL.St w (Blk kx (.cells #[.int .u32 (X : Nat), .int .u32 (Y : Nat)] 46 (0, 0)) :: Graph g ns :: [Old w]) wr)
          case atStart => exact ⟨0, Nat.zero_le _, rfl, rfl, hs10⟩
          case round =>
            clear hs10
            obtain ⟨m, hmj, hgk, rfl, hsi⟩ := hrel
            subst hgk
            by_cases hml : m < j
            · have hnode := Node_walk w _ _ g ns hsi.swap m (by rw [HN.out]; omega) (by rw [HN.out]; exact hnl)
              cases hgm : isGate ns m with
              | false =>
                have hK : (nodeM ns m).1 ≠ 2 := by
                  by_cases hm0 : m = 0
                  · rw [hm0, nodeM_zero]; decide
                  · rw [nodeM_in hm0 hgm]; show (1 : Nat) ≠ 2; decide
                generalize nodeM ns m = M at *
                obtain ⟨K, U, Z⟩ := M
                simp only at hnode hK
                have eK : ((K : Int) == 2) = false := by rw [beq_eq_false_iff_ne]; omega
                go_wp2_with fail
                refine hnode.mono ?_
                clear hnode
                rintro e w12 ⟨rfl, hs12⟩
                have hs13 := hs12.alloc (.cells #[.int .u32 (U : Nat), .int .u32 (Z : Nat)] 46)
                go_wp2_with fail
                go_roundg (j - (m + 1))
                case measure => omega
                case rel => exact ⟨m + 1, by omega, rfl, by go_num, hs13.sel [2, 1] 1⟩
              | true =>
                have hne := HU.out m hml hgm
                rw [nodeM_gate hgm] at hnode
                generalize nd ns m = y at *
                obtain ⟨U, Z⟩ := y
                have hcase : ((X : Int) == (U : Int)) = false ∨ (((X : Int) == (U : Int)) = true ∧ ((Y : Int) == (Z : Int)) = false) := by
                  by_cases h : X = U
                  · right; exact ⟨by simp [h], by rw [beq_eq_false_iff_ne]; intro h2; exact hne (by rw [h, show Y = Z by omega])⟩
                  · left; rw [beq_eq_false_iff_ne]; omega
                clear hne
                go_wp2_with fail
                refine hnode.mono ?_
                clear hnode
                rintro e w12 ⟨rfl, hs12⟩
                have hs13 := hs12.alloc (.cells #[.int .u32 (U : Nat), .int .u32 (Z : Nat)] 46)
                have d0 := (hs13.pull 2).cell 0
                have d1 := (hs13.pull 2).cell 1
                simp at d0 d1
                rcases hcase with hc | ⟨hc, hc2⟩
                · go_wp2_with fail
                  go_roundg (j - (m + 1))
                  case measure => omega
                  case rel => exact ⟨m + 1, by omega, rfl, by go_num, hs13.sel [2, 1] 1⟩
                · go_wp2_with fail
                  go_roundg (j - (m + 1))
                  case measure => omega
                  case rel => exact ⟨m + 1, by omega, rfl, by go_num, hs13.sel [2, 1] 1⟩
            · obtain rfl : m = j := by omega
              go_wp2_with fail
              go_roundg (n - (m + 1))
              case measure => omega
              case rel => exact ⟨m + 1, by omega, rfl, by go_num, hsi.drop⟩
    · go_wp2_with fail
      go_ret
      exact ⟨rfl, hsr.drop⟩
end Go.Proofs.Ytjllogellpfpkaa
