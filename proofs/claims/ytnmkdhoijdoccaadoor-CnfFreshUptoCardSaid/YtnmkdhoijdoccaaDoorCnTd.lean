/- The program's tidied. -/
import Derived.Test.YtnmkdhoijdoccaaDoorCnN
import Derived.Test.YtnmkdhoijdoccaaDoorKyM
import Derived.Test.YtnmkdhoijdoccaaDoorCnKy
import Derived.Test.YtnmkdhoijdoccaaDoorCnTs
set_option linter.unusedVariables false
set_option linter.unusedSimpArgs false
namespace Go.Proofs.YtnmkdhoijdoccaaDoor
open Go Go.RowKit SL

theorem key_mem {S : List Int} {L : List (List Int)} : decide (keyM S ∈ L.map keyM) = decide (S ∈ L) := by
  have : keyM S ∈ L.map keyM ↔ S ∈ L := by
    rw [List.mem_map]
    constructor
    · rintro ⟨x, hx, e⟩; rw [← keyM_inj e]; exact hx
    · intro h; exact ⟨S, h, rfl⟩
  by_cases h : S ∈ L
  · rw [decide_eq_true h, decide_eq_true (this.2 h)]
  · rw [decide_eq_false h, decide_eq_false (fun k => h (this.1 k))]

set_option maxRecDepth 100000 in
set_option maxHeartbeats 8000000 in
theorem tidied_walk (w0 w : World) (l : List HP) (h : SL.St w0 l w) (vf : Value) (cls : List (List Int)) (hr : Ent l (Rd2 (cInt .i64) vf cls)) (hL : ∀ c ∈ cls, c.length ≤ 1048576 ∧ ∀ x ∈ c, litOk x = true) (hn : cls.length ≤ 4194304) (ht : Ent l Tab) :
    Calls Tryd.prog 32 #[vf] w fun e w' => ∃ v', e = .returned v' ∧ SL.St w0 (Arr2 (cInt .i64) 3 51 v' (tidM cls) :: l) w' := by
  obtain ⟨A, c, rfl, hm, -⟩ := (hr.use h).at
  unfold maxLen at hm
  have hmm : ∀ (t : TypeId) (w : World), (Instr.makeMap t none).run Tryd.prog w = .ok (.map (some w.heap.size)) (w.alloc (.map #[] 0)) := fun _ _ => rfl
  have hs0 := (smap_new (h.alloc (.map #[] 0))).nil2 (cInt .i64) 3 51
  have HL := Lib.hid hL; clear hL
  go_enter Tryd.func32, Tryd.ntmps32
  go_wp2_with fail
  generalize w.heap.size = b at hs0 ⊢
  generalize w.alloc _ = wA at hs0 ⊢
  clear h hmm
  go_loopg [4, 15] cls.length (fun k vo i wr => ∃ j : Nat, j ≤ cls.length ∧ k = cls.length - j ∧ i = .int .i64 j ∧ SL.St w0 (Arr2 (cInt .i64) 3 51 vo (tidM (cls.take j)) :: SMap b ((tidM (cls.take j)).map keyM) :: l) wr)
  case atStart => exact ⟨0, Nat.zero_le _, rfl, rfl, hs0⟩
  case round =>
    clear hs0
    obtain ⟨j, hj, hgk, rfl, hsr⟩ := hrel
    subst hgk
    by_cases hlt : j < cls.length
    · obtain ⟨A', c', hv', -, hcc⟩ := (hr.use hsr.drop.drop).at
      obtain rfl : A = A' := by injection hv'
      obtain ⟨ad, Bc, nc, cc, hA', hcell, hrc⟩ := hcc j _ (List.getElem?_eq_getElem hlt)
      subst hA'
      clear hcc hv'
      have HT := Lib.hid (tidM_take_succ cls j hlt)
      obtain ⟨hx1, hx2⟩ := HL.out _ (List.getElem_mem hlt)
      have hol := tidM_len (cls.take j)
      rw [List.length_take_of_le hj] at hol
      generalize cls[j] = x at *
      generalize tidM (cls.take j) = OUT at *
      obtain ⟨Ag, cg, rfl, -, -⟩ := hsr.rd2.at
      have NW := normed_walk wr wr [Old wr] (SL.St.start wr) (.slice Bc nc cc) x hrc hx2 (by omega)
      have hSl := setM_len x
      have hSI : ∀ y ∈ setM x, I64 y := fun y hy => by
        have := litOk_iff.1 (hx2 y (setM_mem.1 hy))
        exact ⟨by omega, by omega⟩
      unfold tidyStep at HT
      generalize setM x = S at *
      have HX := Lib.hid hx2; clear hx2 hrc
      go_wp2_with fail
      refine NW.mono ?_
      rintro e w1 ⟨vS, rfl, hst1⟩
      have hs1 := St.through (ps := [_]) hsr hst1
      clear NW hst1 hsr hcell
      obtain ⟨AS, cS, rfl, -, -⟩ := hs1.rd
      have hs1 : SL.St w0 (Arr (cInt .i64) 3 (.slice AS S.length cS) S :: Arr2 (cInt .i64) 3 51 (.slice Ag OUT.length cg) OUT :: SMap b (OUT.map keyM) :: l) w1 := hs1
      cases hD : twoM S with
      | true =>
        have HT2 := Lib.hid (show tidM (cls.take (j + 1)) = OUT by rw [HT.out, if_pos (.inl hD)])
        clear HT hD
        go_wp2_with fail
        go_roundg (cls.length - (j + 1))
        case measure => omega
        case rel => exact ⟨j + 1, by omega, rfl, by go_num, by rw [HT2.out]; exact hs1.drop⟩
      | false =>
        have KW := key_walk w1 (ht.use hs1.drop.drop.drop) _ S hs1.rd hSI (by omega)
        go_wp2_with fail
        refine KW.mono ?_
        rintro e w2 ⟨rfl, hst2⟩
        have hs2 := hs1.below hst2.old
        clear KW hst2 hs1
        obtain ⟨es, clock, hes, hsb⟩ := St.smap (hs2.pull 2)
        have hlk := run_s_lookup (keyM S) (OUT.map keyM) w2 b es clock hsb.blk hes
        rw [key_mem] at hlk
        unfold sKey at hlk
        by_cases hM : S ∈ OUT
        · have HT2 := Lib.hid (show tidM (cls.take (j + 1)) = OUT by rw [HT.out, if_pos (.inr hM)])
          rw [decide_eq_true hM] at hlk
          clear HT hD hsb hM
          go_wp2_with fail
          go_roundg (cls.length - (j + 1))
          case measure => omega
          case rel => exact ⟨j + 1, by omega, rfl, by go_num, by rw [HT2.out]; exact ((hs2.alloc _).drop).drop⟩
        · have HT2 := Lib.hid (show tidM (cls.take (j + 1)) = OUT ++ [S] by rw [HT.out, if_neg (fun h => h.elim (fun h => by rw [hD] at h; cases h) hM)])
          rw [decide_eq_false hM] at hlk
          have hs3 := (hs2.alloc (.cells #[] 101)).drop
          obtain ⟨es2, clock2, hes2, hsb2⟩ := St.smap (hs3.pull 2)
          have hnm : keyM S ∉ OUT.map keyM := of_decide_eq_false (key_mem.trans (decide_eq_false hM))
          have hupd := run_s_update (keyM S) (OUT.map keyM) (w2.alloc (.cells #[] 101)) b es2 clock2 hsb2.blk hes2 hnm
          unfold sKey at hupd
          have hs4 := smap_add (keyM S) hes2 hsb2
          have HS4 : ∃ w4, w4 = _ ∧ SL.St w0 (SMap b (OUT.map keyM ++ [keyM S]) :: Arr (cInt .i64) 3 (.slice AS S.length cS) S :: Arr2 (cInt .i64) 3 51 (.slice Ag OUT.length cg) OUT :: l) w4 := ⟨_, rfl, hs4⟩
          obtain ⟨w4, hw4, hs5⟩ := HS4
          unfold sKey at hw4
          rw [← hw4] at hupd
          clear HT hD hsb hs4 hsb2 hnm hM
          replace hw4 := Lib.hid hw4
          obtain ⟨ss, hsl, h5⟩ := SL.St.arr2 (hs5.sel [2, 1, 0])
          have h6 := (h5.alloc (.cells #[.slice AS S.length cS] 51))
          have HSL := Lib.hid hsl
          have HSB := Lib.hid (show ss.length ≤ 4194304 by rw [hsl]; omega)
          clear h5 hsl
          go_wp2_with (at_builtin; go_loud (refine wpList_app rfl _ _ rfl Tryd.underlying22 infoClause rfl (h6.pull 1) rfl (ys := ([(AS, S.length, cS)] : List Slc)) rfl (h6.rd_blk (d := cSlc) (ys := ([(AS, S.length, cS)] : List Slc)) 1 1 rfl rfl (by decide)) (by have := HSB.out; simp; omega) (by have := HSB.out; simp; omega) ?_); go_loud (intro vo' w7 h7))
          have h9 := SL.St.push2 (s := ((AS, S.length, cS) : Slc)) HSL.out (h7.sel [0] 1)
          go_roundg (cls.length - (j + 1))
          case measure => omega
          case rel => exact ⟨j + 1, by omega, rfl, by go_num, by rw [HT2.out, List.map_append]; exact h9⟩
    · obtain rfl : j = cls.length := by omega
      rw [List.take_length] at hsr
      go_wp2_with fail
      go_ret
      exact ⟨_, rfl, hsr.sel [0] 1⟩
end Go.Proofs.YtnmkdhoijdoccaaDoor
