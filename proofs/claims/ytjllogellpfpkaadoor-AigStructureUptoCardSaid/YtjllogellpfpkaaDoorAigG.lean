/- The cone: a walk with a stack of its own. -/
import Derived.Test.YtjllogellpfpkaaDoorAigA
import Derived.Test.YtjllogellpfpkaaDoorAigN
import Derived.Deep.LoopGhost
set_option linter.unusedVariables false
set_option linter.unusedSimpArgs false
namespace Go.Proofs.YtjllogellpfpkaaDoor
open Go Go.RowKit SL

theorem gate_walk (w : World) (g : Nat) (v : Value) (ns : Nodes) (hg : w.cell? ⟨g, 0, none⟩ = some v) (hr : Rd cGate v ns w) (n : Nat) (hn : n < ns.length) (hl : ns.length ≤ 1073741824) :
    Calls Tryd.prog 39 #[.pointer (some ⟨g, 0, none⟩), .int .i64 (n : Nat)] w fun e w' => w = w' ∧ e = .returned (.bool (isGate ns n)) := by
  obtain ⟨A, c, rfl, -, hc⟩ := hr
  obtain ⟨ad, rfl, h⟩ := hc n ns[n] (List.getElem?_eq_getElem hn)
  have h0 := h 0 _ rfl
  simp [cGate] at h0
  by_cases hn0 : n = 0
  · subst hn0
    go_enter Tryd.func39, Tryd.ntmps39
    go_wp2
    go_ret
    exact ⟨rfl, by simp [isGate]⟩
  have hpos : 0 < n := by omega
  go_enter Tryd.func39, Tryd.ntmps39
  go_wp2
  go_ret
  refine ⟨rfl, ?_⟩
  have e : ns.getD n (0, 0) = ns[n] := by simp [List.getD_eq_getElem?_getD, hn]
  have e3 : (n != 0) = true := by simp [hn0]
  have e4 : (((ns[n].1 : Nat) : Int) != 4294967295) = (ns[n].1 != 4294967295) := by
    by_cases hx : ns[n].1 = 4294967295
    · simp [hx]
    · have h2 : (ns[n].1 == 4294967295) = false := by simpa using hx
      have h3 : (((ns[n].1 : Nat) : Int) == 4294967295) = false := by simp; omega
      simp only [bne, h2, h3]
  simp only [isGate, e, mark, e3, Bool.true_and, ← e4]
  rfl

theorem index2a (X Y : Int) (w : World) : (Instr.index 148 (.agg #[.int .u32 X, .int .u32 Y]) (.int .i64 0)).run Tryd.prog w = .ok (.int .u32 X) w := by kernel_rfl
theorem index2b (X Y : Int) (w : World) : (Instr.index 148 (.agg #[.int .u32 X, .int .u32 Y]) (.int .i64 1)).run Tryd.prog w = .ok (.int .u32 Y) w := by kernel_rfl
theorem index2 (X Y d : Nat) (h : d < 2) (w : World) : (Instr.index 148 (.agg #[.int .u32 (X : Nat), .int .u32 (Y : Nat)]) (.int .i64 (d : Nat))).run Tryd.prog w = .ok (.int .u32 ((if d = 0 then X else Y : Nat))) w := by
  have : d = 0 ∨ d = 1 := by omega
  rcases this with rfl | rfl
  · exact index2a X Y w
  · exact index2b X Y w
/-- A node on the stack, in memory. -/
def cFrame : Cd (Nat × Nat) := ⟨2, fun p => [.int .i64 p.1, .int .i64 p.2], fun _ => rfl, by simp [Value.oneCell'], by decide⟩
theorem infoFrame : (Tryd.prog.info? 146).map (fun i => (i.zero, i.size, i.bytes)) = some (some (.agg #[.int .i64 0, .int .i64 0]), 2, 16) := by kernel_rfl
/-- What memory holds within the walk. -/
def ConeSt (w0 w : World) (l : List HP) (g : Nat) (ns : Nodes) (gn cn bm : Nat) (vi : Value) (kb : Nat) (vo vs : Value) (met : List Bool) (out : List Nat) (st : List (Nat × Nat)) : Prop :=
  SL.St w0 (Arr cBool 4 (.slice (some ⟨kb, 0, none⟩) ns.length ns.length) met :: Arr (cNat .i64) 3 vo out :: Arr cFrame 146 vs st ::
    Blk g (.cells #[.slice (some ⟨gn, 0, none⟩) ns.length cn, .map (some bm), vi] 88 (0, 0)) :: Arr cGate 75 (.slice (some ⟨gn, 0, none⟩) ns.length cn) ns :: GMap bm (gatesOf ns) :: Arr (cNat .i64) 3 vi (inputsOf ns) :: l) w
/-- What a round of the inner loop begins with. -/
def ConeIn (ns : Nodes) (T s : CS) (st : List (Nat × Nat)) (k : Nat) : Prop :=
  finish ns st s = T ∧ s.1.length = ns.length ∧ (∀ p ∈ st, p.1 < ns.length ∧ p.2 ≤ 2) ∧ owed st s.1 ≤ k ∧ s.2.length + st.length + s.1.count false ≤ ns.length

set_option maxRecDepth 100000 in
set_option maxHeartbeats 4000000 in
theorem cone_walk (w0 w : World) (l : List HP) (g : Nat) (ns : Nodes) (h : SL.St w0 (Graph g ns :: l) w) (hw : Wf ns) (hl : ns.length ≤ 1073741824) (v : Value) (roots : List Nat) (hr : Ent l (Rd (cNat .u32) v roots)) (hx : ∀ y ∈ roots, y < 2 * ns.length) :
    Calls Tryd.prog 47 #[.pointer (some ⟨g, 0, none⟩), v] w fun e w' =>
      ∃ vo, e = .returned vo ∧ SL.St w0 (Arr (cNat .i64) 3 vo (coneM ns roots) :: Graph g ns :: l) w' := by
  obtain ⟨vn, vi, bm, hs⟩ := St.graph h
  have hpos : 0 < ns.length := by have := hw.1; omega
  obtain ⟨gn, cn, rfl⟩ := (hs.pull 1).arr_form hpos
  have g0 : w.cell? ⟨g, 0, none⟩ = some (.slice (some ⟨gn, 0, none⟩) ns.length cn) := hs.cell 0
  obtain ⟨A, c, hv, hm, -⟩ := hr.use h.drop
  subst hv
  unfold maxLen at hm
  have hmk := run_make_row' (P := Tryd.prog) 43 4 (.bool false) 1 Tryd.underlying43 infoBool rfl .i64 .i64 ns.length (by omega) (by omega)
  have hm0 : (madeCells #[Value.bool false] ns.length)[0]? = some (.bool false) := by rw [← Array.getElem?_toList, madeCells_one]; simp [hpos]
  go_enter Tryd.func47, Tryd.ntmps47
  go_wp2_with fail
  have hs1 := hs.alloc (.cells ((madeCells #[Value.bool false] ns.length).setIfInBounds 0 (.bool true)) 4)
  generalize hk : w.heap.size = kb at *
  generalize w.alloc _ = w1 at hs1 ⊢
  have hs2 := ((hs1.arr_lit (d := cBool) (n := ns.length) (xs := (List.replicate ns.length false).set 0 true) (by simp) (by rw [cBool.all_set rfl _ _ _ (.bool true) rfl, cBool.all_replicate false (.bool false) rfl, Array.toList_setIfInBounds, madeCells_one]) (by unfold maxLen; omega)).rows_nil cFrame 146).rows_nil (cNat .i64) 3
  have hs3 : ConeSt w0 w1 l g ns gn cn bm vi kb (.slice none 0 0) (.slice none 0 0) (cone0 ns).1 (cone0 ns).2 [] := hs2.sel [2, 0, 1, 3, 4, 5, 6]
  clear hs1 hs2 hs hmk hm0 hk h g0
  go_loopg [6, 7, 24] roots.length (fun k vo vs i wr => ∃ j : Nat, j ≤ roots.length ∧ k = roots.length - j ∧ i = .int .i64 j ∧ (meetAll ns (roots.take j) (cone0 ns)).2.length + (meetAll ns (roots.take j) (cone0 ns)).1.count false ≤ ns.length ∧
      ConeSt w0 wr l g ns gn cn bm vi kb vo vs (meetAll ns (roots.take j) (cone0 ns)).1 (meetAll ns (roots.take j) (cone0 ns)).2 [])
  case atStart => exact ⟨0, Nat.zero_le _, rfl, rfl, cone0_count ns, hs3⟩
  case round =>
    obtain ⟨j, hj, hgk, rfl, hct, hsr⟩ := hrel
    subst hgk
    have hlen : (meetAll ns (roots.take j) (cone0 ns)).1.length = ns.length := by rw [meetAll_length]; simp [cone0]
    generalize hS : meetAll ns (roots.take j) (cone0 ns) = S at *
    have HS := Lib.hid hS; clear hS
    by_cases hlt : j < roots.length
    · obtain ⟨A', c', hv, -, hc⟩ := hr.use (hsr.sel [] 7)
      obtain ⟨ad, hA', hcell⟩ := rd_at hc j hlt
      obtain rfl : A = some ad := by
        have : A' = A := by injection hv with h1; exact h1.symm
        rw [← this]; exact hA'
      have hyl := hx _ (List.getElem_mem hlt)
      have HT := Lib.hid (List.take_succ_eq_append_getElem hlt)
      clear hc hv hA'
      generalize hrk : roots[j] = r at *
      clear hrk
      have hn : r / 2 < ns.length := by omega
      have hmget : S.1[r / 2]? = some (S.1.getD (r / 2) true) := by simp [List.getD_eq_getElem?_getD, hlen, hn]
      obtain ⟨hmc, hmf⟩ := SL.St.arr_cell1 hsr rfl (r / 2) _ hmget _ rfl
      have hq : (r : Int) / 2 = ((r / 2 : Nat) : Int) := by omega
      generalize hnr : r / 2 = n at *
      have HR := Lib.hid hnr
      clear hnr
      obtain ⟨As, cs, rfl, -, -⟩ := (SL.St.pull hsr 2).rd
      cases hb : S.1.getD n true with
      | true =>
        have HB := Lib.hid hb
        rw [hb] at hmc
        clear hb hmget
        go_wp2_with fail
        go_loopg [6, 7] 0 (fun k a6 a7 w' => a6 = u6 ∧ a7 = .slice As 0 cs ∧ w' = wr)
        case atStart => exact ⟨rfl, rfl, rfl⟩
        case round =>
          obtain ⟨rfl, rfl, rfl⟩ := hrel
          go_wp2_with fail
          have hM : meetAll ns (roots.take (j + 1)) (cone0 ns) = S := by rw [HT.out, meetAll_snoc, HS.out, HR.out, meet_met hw hn HB.out]
          have HM := Lib.hid hM; clear hM
          go_roundg (roots.length - (j + 1))
          case measure => omega
          case rel => exact ⟨j + 1, by omega, rfl, by go_num, by rw [HM.out]; exact hct, by rw [HM.out]; exact hsr⟩
      | false =>
        have HB := Lib.hid hb
        rw [hb] at hmc
        clear hb hmget
        have hs4 := ((SL.St.arr_set1 hsr rfl n (by omega) true (.bool true) rfl).alloc (.cells #[.int .i64 (n : Nat), .int .i64 0] 146))
        simp only [World.size_setCell] at hs4
        go_wp2_with (first | (at_builtin; go_loud (refine wpList_app rfl _ _ rfl Tryd.underlying144 infoFrame rfl (hs4.pull 3) rfl (ys := [(n, 0)]) rfl (hs4.rd_blk (ys := [(n, 0)]) 1 1 rfl rfl (by decide)) (by simp) (by simp) ?_); intro vs' w2 hs5))
        have hs6 : ConeSt w0 w2 l g ns gn cn bm vi kb u6 vs' (S.1.set n true) S.2 [(n, 0)] := hs5.sel [2, 3, 0, 4, 5, 6, 7] 1
        have hT : ConeIn ns (meet ns ns.length n S) (S.1.set n true, S.2) [(n, 0)] (owed [(n, 0)] (S.1.set n true)) :=
          ⟨by rw [meet_push hw hn HB.out]; rfl, by simp [hlen], by simp [hn], Nat.le_refl _, by have := count_set HB.out; simp only [List.length_singleton]; omega⟩
        have hM : meetAll ns (roots.take (j + 1)) (cone0 ns) = meet ns ns.length n S := by rw [HT.out, meetAll_snoc, HS.out, HR.out]
        generalize meet ns ns.length n S = T at hT hM
        have HM := Lib.hid hM
        clear hs4 hs5 hM hmc hmf hsr HS HB HR hcell hyl hq hn
        go_loopg [6, 7] (owed [(n, 0)] (S.1.set n true)) (fun k vo vs wi => ∃ st s, ConeIn ns T s st k ∧ ConeSt w0 wi l g ns gn cn bm vi kb vo vs s.1 s.2 st)
        case atStart => exact ⟨_, _, hT, hs6⟩
        case round =>
          clear hs6 hT
          obtain ⟨st, s, hin, hsi⟩ := hrel
          rcases List.eq_nil_or_concat st with rfl | ⟨st', p, hst⟩
          · obtain ⟨Ai, ci, rfl, -, -⟩ := (SL.St.pull hsi 2).rd
            have hTs : s = T := hin.1
            subst hTs
            have hc2 : s.2.length + s.1.count false ≤ ns.length := by have := hin.2.2.2.2; simpa using this
            clear hin
            go_wp2_with fail
            go_roundg (roots.length - (j + 1))
            case measure => omega
            case rel => exact ⟨j + 1, by omega, rfl, by go_num, by rw [HM.out]; exact hc2, by rw [HM.out]; exact hsi⟩
          · rw [List.concat_eq_append] at hst; subst hst
            obtain ⟨b, cst, rfl⟩ := (SL.St.pull hsi 2).arr_form (by simp)
            have hget : (st' ++ [p])[st'.length]? = some p := by simp
            obtain ⟨p0, -⟩ := (SL.St.pull hsi 2).arr_cell _ _ hget 0 _ rfl
            obtain ⟨p1, pf⟩ := (SL.St.pull hsi 2).arr_cell _ _ hget 1 _ rfl
            simp only [cFrame, Nat.add_zero] at p0 p1 pf
            have g0 : wr.cell? ⟨g, 0, none⟩ = some (.slice (some ⟨gn, 0, none⟩) ns.length cn) := (SL.St.pull hsi 3).cell 0
            obtain ⟨hfin, hsl, hfr, how, hcn⟩ := hin
            obtain ⟨-, hcap, hcap2⟩ := (SL.St.pull hsi 2).arr_lt
            unfold maxLen at hcap2
            have hp := hfr p (by simp)
            have hng : ns[p.1]? = some ns[p.1] := List.getElem?_eq_getElem hp.1
            obtain ⟨n0, -⟩ := (SL.St.pull hsi 4).arr_cell _ _ hng 0 _ rfl
            obtain ⟨n1, -⟩ := (SL.St.pull hsi 4).arr_cell _ _ hng 1 _ rfl
            simp only [cGate, Nat.add_zero] at n0 n1
            rw [List.length_append, List.length_singleton] at hsi hcap hcn
            simp only [List.length_append, List.length_singleton]
            generalize hml : st'.length = m at *
            obtain ⟨n, d⟩ := p
            simp only at *
            have hm1 : m + 1 ≤ ns.length := by omega
            have rg := Ext.rule g0
            have rp0 := Ext.rule p0
            have rn0 := Ext.rule n0
            have rn1 := Ext.rule n1
            go_wp2_with fail
            -- region 14 of (*cadence/aig.Graph).cone: 0:move 1:nilCheck 2:fieldAddr 3:load 4:move 5:nilCheck 6:fieldAddr 7:load 8:indexAddr 9:load 10:alloc 11:store
            refine wp_region_plan (Ext wr) [(0, 0), (1, 0), (2, 0), (3, 1), (4, 1), (5, 1), (6, 1), (7, 1), (8, 0), (9, 1), (10, 2)] 11 (by kernel_rfl) (by kernel_rfl) ?_
            have hx0 : Ext wr wr.drew := Ext.refl wr
            iterate 3 (first | (refine plan_skip rfl rfl ?_; simp only [Act.put, List.setIfInBounds_toArray, List.set_cons_zero, List.set_cons_succ]) | (refine plan_pure (v := ?_) rfl rfl (fun _ => ?_) ?_; rotate_left; (focus (go_simp; try with_reducible rfl; done)); simp only [Act.put, List.setIfInBounds_toArray, List.set_cons_zero, List.set_cons_succ]))
            iterate 5 (first | (refine plan_held_skip rfl rfl (by assumption) ?_; simp only [Act.put, List.setIfInBounds_toArray, List.set_cons_zero, List.set_cons_succ]) | (refine plan_held (v := ?_) rfl rfl (fun _ hSw => ?_) (by assumption) ?_; rotate_left; (focus (go_simp; try with_reducible rfl; done)); simp only [Act.put, List.setIfInBounds_toArray, List.set_cons_zero, List.set_cons_succ]))
            iterate 1 (first | (refine plan_skip rfl rfl ?_; simp only [Act.put, List.setIfInBounds_toArray, List.set_cons_zero, List.set_cons_succ]) | (refine plan_pure (v := ?_) rfl rfl (fun _ => ?_) ?_; rotate_left; (focus (go_simp; try with_reducible rfl; done)); simp only [Act.put, List.setIfInBounds_toArray, List.set_cons_zero, List.set_cons_succ]))
            iterate 1 (first | (refine plan_held_skip rfl rfl (by assumption) ?_; simp only [Act.put, List.setIfInBounds_toArray, List.set_cons_zero, List.set_cons_succ]) | (refine plan_held (v := ?_) rfl rfl (fun _ hSw => ?_) (by assumption) ?_; rotate_left; (focus (go_simp; try with_reducible rfl; done)); simp only [Act.put, List.setIfInBounds_toArray, List.set_cons_zero, List.set_cons_succ]))
            ((refine plan_eff rfl (fun K hK => ?_)); go_simp; (refine hK _ _ ⟨by repeat (first | exact Ext.refl _ | apply Ext.drew | apply Ext.alloc), ?_⟩); clear hK K)
            -- (Ext behind op 10)
            refine plan_end ?_
            simp only [List.drop]
            go_wp2_with fail
            have hsk := (SL.St.alloc hsi (.cells #[.int .u32 (ns[n].1 : Nat), .int .u32 (ns[n].2 : Nat)] 75)).drew
            clear g0 p0 p1 pf n0 n1 rg rp0 rn0 rn1 hx0
            generalize wr.heap.size = kk at hsk ⊢
            generalize (World.alloc _ _).drew = w5 at hsk ⊢
            have g0 : w5.cell? ⟨g, 0, none⟩ = some (.slice (some ⟨gn, 0, none⟩) ns.length cn) := (hsk.pull 4).cell 0
            have hrd := (hsk.pull 5).rd
            obtain ⟨p0, -⟩ := (hsk.pull 3).arr_cell _ _ hget 0 _ rfl
            obtain ⟨p1, pf⟩ := (hsk.pull 3).arr_cell _ _ hget 1 _ rfl
            simp only [cFrame, Nat.add_zero] at p0 p1 pf
            refine NoPanic.normal ?_
            by_cases hd : isGate ns n = false ∨ d = 2
            · have hcase : (isGate ns n = false) ∨ (isGate ns n = true ∧ ((d : Int) == 2) = true) := by
                rcases hd with h1 | h1
                · exact .inl h1
                · cases hq : isGate ns n
                  · exact .inl rfl
                  · exact .inr ⟨rfl, by simp [h1]⟩
              have hfin2 : finish ns st' (s.1, s.2 ++ [n]) = T := by rw [← hfin, finish_snoc, resume_done hd]
              have how2 : owed st' s.1 < gk := by
                have h1 := owed_snoc st' (n, d) s.1
                simp only at h1
                omega
              have hsa := hsk.alloc (.cells #[.int .i64 (n : Nat)] 3)
              have hroom : (s.2.length + 1) * 8 ≤ 140737488355328 := by omega
              have htake : (st' ++ [(n, d)]).take m = st' := by rw [← hml]; simp
              have HF := Lib.hid hfin2
              have HT2 := Lib.hid htake
              clear hfin hfin2 how htake hget
              rcases hcase with hq | ⟨hq, hdd⟩
              all_goals
                go_wp2_with fail
                refine (gate_walk w5 g _ ns g0 hrd n hp.1 hl).mono ?_
                rintro e w' ⟨rfl, rfl⟩
                rw [hq]
                go_wp2_with (first | (at_builtin; refine wpList_app rfl _ _ rfl Tryd.underlying23 infoInt rfl (hsa.pull 3) rfl (ys := [n]) rfl (hsa.rd_blk (ys := [n]) 1 1 rfl rfl (by decide)) hroom (by simp; omega) ?_; intro vo' w6 hs7))
                go_roundg (owed st' s.1)
                case measure => exact how2
                case rel =>
                  have hs8 := (hs7.pull 4).arr_take m (by omega)
                  rw [HT2.out] at hs8
                  exact ⟨st', (s.1, s.2 ++ [n]), ⟨HF.out, hsl, fun q hq => hfr q (by simp [hq]), Nat.le_refl _, by simp; omega⟩, hs8.sel [4, 1, 0, 5, 6, 7, 8] 2⟩
            · have hq : isGate ns n = true := by
                cases hq : isGate ns n
                · exact absurd (.inl hq) hd
                · rfl
              have hd2 : d < 2 := by
                have h1 : ¬ d = 2 := fun h => hd (.inr h)
                have h2 := hp.2
                omega
              have hdd : ((d : Int) == 2) = false := by simp; omega
              have hops := hw.2 n hp.1 hq
              have hz : opOf ns (n, d) < ns.length := by unfold opOf; split <;> simp <;> omega
              have hst := resume_step (s := s) (p := (n, d)) hq hd2
              have hidx := fun w => index2 ns[n].1 ns[n].2 d hd2 w
              have hZ : (if d = 0 then ns[n].1 else ns[n].2) / 2 = opOf ns (n, d) := by
                have e : ns.getD n (0, 0) = ns[n] := by simp [List.getD_eq_getElem?_getD, hp.1]
                unfold opOf opA opB
                rw [e]
                by_cases h0 : d = 0 <;> simp [h0]
              generalize opOf ns (n, d) = z at hz hst hZ
              generalize (if d = 0 then ns[n].1 else ns[n].2) = Z at hidx hZ
              have hZ2 : (Z : Int) / 2 = (z : Int) := by omega
              have hZ3 : Z < 4294967296 := by omega
              have HZ := Lib.hid hZ
              have k0 : w5.cell? ⟨kk, 0, none⟩ = some (.int .u32 (ns[n].1 : Nat)) := hsk.cell 0
              have k1 : w5.cell? ⟨kk, 1, none⟩ = some (.int .u32 (ns[n].2 : Nat)) := hsk.cell 1
              have rk0 := Ext.rule k0
              have rk1 := Ext.rule k1
              have rp1 := Ext.rule p1
              clear hZ hd hops
              go_wp2_with fail
              refine (gate_walk w5 g _ ns g0 hrd n hp.1 hl).mono ?_
              rintro e w' ⟨rfl, rfl⟩
              rw [hq]
              clear hrd g0
              go_wp2_with fail
              -- region 18 of (*cadence/aig.Graph).cone: 0:fieldAddr 1:load 2:fieldAddr 3:load 4:build 5:move 6:nilCheck 7:fieldAddr 8:load 9:index 10:binOp 11:convert 12:assign
              refine wp_region_plan (Ext w5) [(0, 0), (1, 1), (2, 1), (3, 1), (4, 0), (5, 1), (6, 1), (7, 1), (8, 1)] 9 (by kernel_rfl) (by kernel_rfl) ?_
              have hx0 : Ext w5 w5.drew := Ext.refl w5
              iterate 1 (first | (refine plan_skip rfl rfl ?_; simp only [Act.put, List.setIfInBounds_toArray, List.set_cons_zero, List.set_cons_succ]) | (refine plan_pure (v := ?_) rfl rfl (fun _ => ?_) ?_; rotate_left; (focus (go_simp; try with_reducible rfl; done)); simp only [Act.put, List.setIfInBounds_toArray, List.set_cons_zero, List.set_cons_succ]))
              iterate 3 (first | (refine plan_held_skip rfl rfl (by assumption) ?_; simp only [Act.put, List.setIfInBounds_toArray, List.set_cons_zero, List.set_cons_succ]) | (refine plan_held (v := ?_) rfl rfl (fun _ hSw => ?_) (by assumption) ?_; rotate_left; (focus (go_simp; try with_reducible rfl; done)); simp only [Act.put, List.setIfInBounds_toArray, List.set_cons_zero, List.set_cons_succ]))
              iterate 1 (first | (refine plan_skip rfl rfl ?_; simp only [Act.put, List.setIfInBounds_toArray, List.set_cons_zero, List.set_cons_succ]) | (refine plan_pure (v := ?_) rfl rfl (fun _ => ?_) ?_; rotate_left; (focus (go_simp; try with_reducible rfl; done)); simp only [Act.put, List.setIfInBounds_toArray, List.set_cons_zero, List.set_cons_succ]))
              iterate 4 (first | (refine plan_held_skip rfl rfl (by assumption) ?_; simp only [Act.put, List.setIfInBounds_toArray, List.set_cons_zero, List.set_cons_succ]) | (refine plan_held (v := ?_) rfl rfl (fun _ hSw => ?_) (by assumption) ?_; rotate_left; (focus (go_simp; try with_reducible rfl; done)); simp only [Act.put, List.setIfInBounds_toArray, List.set_cons_zero, List.set_cons_succ]))
              refine plan_end ?_
              simp only [List.drop]
              go_wp2_with fail
              clear rk0 rk1 rp1 hx0 k0 k1 hidx hZ2
              have hsk2 := hsk.drew.sel [1, 2, 3, 4, 5, 6, 7] 1
              have p1' : w5.drew.cell? ⟨b, m * 2 + 1, none⟩ = some (.int .i64 (d : Nat)) := p1
              have pf' : w5.drew.frozen? ⟨b, m * 2 + 1, none⟩ = false := pf
              generalize w5.drew = w6 at hsk2 p1' pf' ⊢
              refine NoPanic.normal ?_
              have hs9 := (hsk2.pull 2).arr_set m (n, d) (n, d + 1) hget 1 (by decide) (.int .i64 ((d : Int) + 1)) rfl
              rw [show m * cFrame.sz + 1 = m * 2 + 1 from rfl] at hs9
              have hset : (st' ++ [(n, d)]).set m (n, d + 1) = st' ++ [(n, d + 1)] := by rw [← hml]; simp
              rw [hset] at hs9
              have hmz : s.1[z]? = some (s.1.getD z true) := by simp [List.getD_eq_getElem?_getD, hsl, hz]
              obtain ⟨mz, mf⟩ := (hs9.pull 1).arr_cell1 rfl z _ hmz _ rfl
              have how3 : owed (st' ++ [(n, d + 1)]) s.1 + 1 = owed (st' ++ [(n, d)]) s.1 := by rw [owed_snoc, owed_snoc]; simp only; omega
              have hfr2 : ∀ q ∈ st' ++ [(n, d + 1)], q.1 < ns.length ∧ q.2 ≤ 2 := by
                intro q hq
                rcases List.mem_append.1 hq with h1 | h1
                · exact hfr q (by simp [h1])
                · obtain rfl : q = (n, d + 1) := by simpa using h1
                  exact ⟨hp.1, by simp; omega⟩
              clear hset hget hsk hsi p0 p1 pf hsk2
              cases hb : s.1.getD z true with
              | true =>
                rw [hb] at mz
                have hF : finish ns (st' ++ [(n, d + 1)]) s = T := by rw [← hfin, finish_snoc, finish_snoc, hst, meet_met hw hz hb]
                have HF := Lib.hid hF
                clear hF hb hmz hfin hst
                go_wp2_with fail
                go_roundg (owed (st' ++ [(n, d + 1)]) s.1)
                case measure => omega
                case rel => exact ⟨st' ++ [(n, d + 1)], s, ⟨HF.out, hsl, hfr2, Nat.le_refl _, by rw [List.length_append, List.length_singleton, hml]; exact hcn⟩, by
                  have hx := hs9.sel [1, 2, 0, 3, 4, 5, 6]
                  unfold ConeSt
                  exact hx⟩
              | false =>
                rw [hb] at mz
                have hF : finish ns (st' ++ [(n, d + 1)] ++ [(z, 0)]) (s.1.set z true, s.2) = T := by rw [← hfin, finish_snoc, finish_snoc, finish_snoc, hst, meet_push hw hz hb]
                have HF := Lib.hid hF
                have hcs := count_set hb
                have how4 : owed (st' ++ [(n, d + 1)] ++ [(z, 0)]) (s.1.set z true) < owed (st' ++ [(n, d)]) s.1 := by
                  have h1 := owed_set (st' ++ [(n, d + 1)]) hb
                  rw [owed_snoc (st' ++ [(n, d + 1)])]; simp only; omega
                have hsb := ((hs9.pull 1).arr_set1 rfl z (by omega) true (.bool true) rfl).alloc (.cells #[.int .i64 (z : Nat), .int .i64 0] 146)
                simp only [World.size_setCell] at hsb
                clear hF hb hmz hfin hst
                go_wp2_with (first | (at_builtin; go_loud (refine wpList_app rfl _ _ rfl Tryd.underlying144 infoFrame rfl (hsb.pull 2) rfl (ys := [(z, 0)]) rfl (hsb.rd_blk (ys := [(z, 0)]) 1 1 rfl rfl (by decide)) (by simp; omega) (by simp; omega) ?_); intro vs'' w7 hs10))
                go_roundg (owed (st' ++ [(n, d + 1)] ++ [(z, 0)]) (s.1.set z true))
                case measure => omega
                case rel => exact ⟨_, (s.1.set z true, s.2), ⟨HF.out, by simp [hsl], by
                  intro q hq
                  rcases List.mem_append.1 hq with h1 | h1
                  · exact hfr2 q h1
                  · obtain rfl : q = (z, 0) := by simpa using h1
                    exact ⟨hz, by simp⟩, Nat.le_refl _, by simp only [List.length_append, List.length_singleton]; omega⟩, hs10.sel [2, 3, 0, 4, 5, 6, 7] 1⟩
    · obtain rfl : j = roots.length := by omega
      rw [List.take_length] at HS
      go_wp2_with fail
      go_ret
      have hS := HS.out
      exact ⟨_, rfl, by
        have hx := SL.St.sel hsr [3, 4, 5, 6, 1] 2
        rw [← hS] at hx
        exact (St.mkGraph hx).swap⟩
end Go.Proofs.YtjllogellpfpkaaDoor
