/- The law AigSims. -/
import Derived.Test.YtjllogellpfpkaaAigT
import Derived.Test.YtjllogellpfpkaaAigX
import Derived.Laws.BitsLemmas
set_option linter.unusedVariables false
set_option linter.unusedSimpArgs false
namespace Go.Proofs.Ytjllogellpfpkaa
open Go Go.RowKit SL

theorem i64_and63 (n : Int) : bits .and .i64 n 63 = ((n % 64).toNat : Nat) := by
  have h63 : (BitVec.ofInt 64 63).toNat = 2 ^ 6 - 1 := by decide
  have key : (BitVec.ofInt 64 n &&& BitVec.ofInt 64 63).toNat = (n % ((2 ^ 64 : Nat) : Int)).toNat % 2 ^ 6 := by
    rw [BitVec.toNat_and, BitVec.toNat_ofInt, h63, Nat.and_two_pow_sub_one_eq_mod]
  show IntKind.i64.wrap ((BitVec.ofInt 64 n &&& BitVec.ofInt 64 63).toNat : Nat) = _
  rw [key, IntKind.wrap_i64]
  omega
theorem bit_of (x s : Nat) (hx : x < 18446744073709551616) : (bits .and .u64 ((x : Int) / (2 : Int) ^ s) 1 == 1) = x.testBit s := by
  have e : ((x : Int) / (2 : Int) ^ s) = ((x / 2 ^ s : Nat) : Int) := by
    rw [Int.natCast_ediv, Int.natCast_pow]; rfl
  have hle : x / 2 ^ s ≤ x := Nat.div_le_self _ _
  have hx2 : x / 2 ^ s < 18446744073709551616 := Nat.lt_of_le_of_lt hle hx
  rw [e]
  generalize hq : x / 2 ^ s = q at hx2
  rw [and_one_u64 _ (by omega) (by omega), Nat.testBit_eq_decide_div_mod_eq, hq]
  have : q % 2 = 0 ∨ q % 2 = 1 := by omega
  have e2 : ((q : Int)) % 2 = ((q % 2 : Nat) : Int) := by omega
  rw [e2]
  rcases this with h | h <;> rw [h] <;> rfl

theorem madeM_count (script : List Mk) (hl : script.length ≤ 300000000) : (inputsOf (madeM script).1).length ≤ script.length := by
  obtain ⟨g, hv⟩ := madeM_good script hl
  obtain ⟨V, hV⟩ := exists_val g.wf (fun i => ([] : List Bool).getD i false)
  rw [← (hv _ V hV [] (fun _ => rfl)).2]
  exact (wantM_len script []).2

set_option maxRecDepth 100000 in
set_option maxHeartbeats 4000000 in
theorem sims_walk (w : World) (v : Value) (script : List Mk) (hr : Ent [Old w] (Rd cMade v script)) (hin : ∀ s ∈ script, MkIn s) (hl : script.length ≤ 2097152)
    (vw : Value) (words : List Nat) (hrw : Ent [Old w] (Rd (cNat .u64) vw words)) (hwb : ∀ y ∈ words, y < 18446744073709551616) (k : Int) (hk1 : -9223372036854775808 ≤ k) (hk2 : k ≤ 9223372036854775807) :
    Calls Try.prog 3 #[v, vw, .int .i64 k] w fun e w' => e = .returned (.bool true) ∧ SL.St w [Old w] w' := by
  obtain ⟨gd, -⟩ := madeM_good script (by omega)
  have hcount := madeM_count script (by omega)
  have hok := madeM_ok script
  have h63 := i64_and63 k
  have hkb : (k % 64).toNat < 64 := by omega
  generalize (k % 64).toNat = kb at h63 hkb
  obtain ⟨A, c, hv, hm, -⟩ := hr.use (St.start w)
  obtain ⟨Aw, cw, hvw, hmw, -⟩ := hrw.use (St.start w)
  subst hv hvw
  unfold maxLen at hm hmw
  go_enter Try.func3, Try.ntmps3
  go_wp2_with fail
  refine (New_walk w w _ (St.start w)).mono ?_
  rintro e w1 ⟨g, rfl, hs1⟩
  go_wp2_with fail
  refine (live_walk w w1 _ hs1).mono ?_
  rintro e w2 ⟨rfl, hs2⟩
  go_wp2_with fail
  refine (made2_walk w w2 _ g hs2 _ script hr hin (by omega)).mono ?_
  rintro e w3 ⟨vl, rfl, hs3⟩
  generalize madeM script = p at *
  obtain ⟨ns, ls⟩ := p
  simp only at gd hcount hs3
  obtain ⟨hp0, hps, hpl, hpx⟩ := hok
  simp only at hp0 hps hpl hpx
  obtain ⟨Al, cl, rfl, -, -⟩ := hs3.rd
  have HPL := Lib.hid hpl; clear hpl
  have hi := Inputs_walk w w3 _ g ns hs3.swap
  have hwf := gd.wf
  have hwi := gd.wfIn
  generalize hn : (inputsOf ns).length = n at hcount hi
  have HN := Lib.hid hn; clear hn
  have hmk := run_make_row' (P := Try.prog) 23 33 (.int .u64 0) 8 Try.underlying23 infoU64 rfl .i64 .i64 n (by omega) (by omega)
  have hmk2 := run_make_row' (P := Try.prog) 31 4 (.bool false) 1 Try.underlying31 infoBool rfl .i64 .i64 n (by omega) (by omega)
  go_wp2_with (first | (go_at_call 9; refine hi.mono ?_; rintro e w' ⟨rfl, rfl⟩))
  have hs4 := ((((hs3.alloc (.cells (madeCells #[Value.int .u64 0] n) 33)).arr_made (d := cNat .u64) rfl (x := 0) rfl (by unfold maxLen; omega)).alloc (.cells (madeCells #[Value.bool false] n) 4)).arr_made (d := cBool) rfl (x := false) rfl (by unfold maxLen; omega))
  simp only [World.size_alloc] at hs4
  generalize w3.heap.size = kv at hs4 ⊢
  generalize ((w3.alloc _).alloc _) = w4 at hs4 ⊢
  clear hmk hmk2 hi hs3 hs2 hs1
  go_loopg [13] n (fun k i wr => ∃ (j : Nat) (ins : List Nat), j ≤ n ∧ k = n - j ∧ i = .int .i64 j ∧ ins.length = n ∧ (∀ y ∈ ins, y < 18446744073709551616) ∧
      SL.St w (Arr cBool 4 (.slice (some ⟨kv + 1, 0, none⟩) n n) (ins.map (fun y => y.testBit kb)) :: Arr (cNat .u64) 33 (.slice (some ⟨kv, 0, none⟩) n n) ins :: Arr (cNat .u32) 44 (.slice Al ls.length cl) ls :: Graph g ns :: [Old w]) wr)
  case atStart => exact ⟨0, List.replicate n 0, Nat.zero_le _, rfl, rfl, by simp, fun y hy => by rw [(List.mem_replicate.1 hy).2]; decide, by simpa using hs4⟩
  case round =>
    clear hs4
    obtain ⟨j, ins, hj, hgk, rfl, hil, hib, hsr⟩ := hrel
    subst hgk
    have HIL := Lib.hid hil; clear hil
    have fin : Code.wp Try.prog = Code.wp Try.prog := rfl
    by_cases hlt : j < n
    · by_cases hlt2 : j < words.length
      · obtain ⟨A', c', hv, -, hc⟩ := hrw.use (hsr.sel [] 4)
        obtain ⟨ad, hA', hcell⟩ := rd_at hc j hlt2
        obtain rfl : Aw = some ad := by
          have : A' = Aw := by injection hv with h1; exact h1.symm
          rw [← this]; exact hA'
        have hb := hwb _ (List.getElem_mem hlt2)
        have hi0 : ins[j]? = some (ins[j]'(by have := HIL.out; omega)) := List.getElem?_eq_getElem _
        have hi1 : (ins.map (fun y => y.testBit kb))[j]? = some ((ins[j]'(by have := HIL.out; omega)).testBit kb) := by rw [List.getElem?_map, hi0]; rfl
        obtain ⟨z0, zf⟩ := (hsr.pull 1).arr_cell1 rfl j _ hi0 _ rfl
        have hs5 := ((hsr.pull 1).arr_set1 rfl j (by have := HIL.out; omega) words[j] _ rfl).swap
        obtain ⟨y0, yf⟩ := hs5.arr_cell1 rfl j _ hi1 _ rfl
        obtain ⟨A2, c2, hv2, -, hc2⟩ := hrw.use (hs5.sel [] 4)
        obtain ⟨ad2, hA2, hcell2⟩ := rd_at hc2 j hlt2
        obtain rfl : ad = ad2 := by
          have h1 : A2 = some ad := by injection hv2 with h1; exact h1.symm
          rw [h1] at hA2; injection hA2
        clear hc hv hA' hc2 hv2 hA2
        generalize words[j] = x at *
        have hbit := bit_of x kb hb
        have HB := Lib.hid (show (ins.set j x).map (fun y => y.testBit kb) = (ins.map (fun y => y.testBit kb)).set j (x.testBit kb) by rw [List.map_set])
        have hs6 := hs5.arr_set1 rfl j (by have := HIL.out; simp; omega) (x.testBit kb) _ rfl
        clear hi0 hi1
        go_wp2_with fail
        go_roundg (n - (j + 1))
        case measure => omega
        case rel =>
          refine ⟨j + 1, ins.set j x, by omega, rfl, by go_num, by simpa using HIL.out, fun y hy => ?_, ?_⟩
          · rcases List.mem_or_eq_of_mem_set hy with h1 | h1
            · exact hib y h1
            · rw [h1]; exact hb
          · rw [HB.out]; exact hs6
      · go_wp2_with fail
        refine (Sim_walk w wr _ g ns (hsr.pull 3) hwf hwi (by omega) _ ins (fun _ _ h => (h.pull 1).rd) (HIL.out.trans HN.out.symm) hib _ ls (fun _ _ h => (h.pull 2).rd) hpx (by have := HPL.out; omega)).mono ?_
        rintro e w5 ⟨vs, rfl, hs5⟩
        have hrow : (fun i => (ins.map (fun y => y.testBit kb)).getD i false) = (fun i => (ins.getD i 0).testBit kb) := by
          funext i
          by_cases hi : i < ins.length
          · simp [List.getD_eq_getElem?_getD, List.getElem?_eq_getElem hi]
          · simp [List.getD_eq_getElem?_getD, List.getElem?_eq_none (Nat.le_of_not_lt hi)]
        obtain ⟨V, hV⟩ := exists_val hwf (fun i => (ins.getD i 0).testBit kb)
        have hsb := simM_bit hwf hpx kb hkb V hV
        have hev : evalM ns (ins.map (fun y => y.testBit kb)) ls = (simM ns ins ls).map (fun x => x.testBit kb) := by
          rw [hsb]
          exact evalM_val hwf hpx V (by rw [hrow]; exact hV) bitOf rfl
        have hslen : (simM ns ins ls).length = ls.length := by simp [simM]
        have hsbd := simM_lt (ns := ns) hib ls
        generalize simM ns ins ls = ss at *
        clear hsb hV hrow
        have HIR := Lib.hid (show (ins.map (fun y => y.testBit kb)).length = (inputsOf ns).length by rw [List.length_map, HIL.out, HN.out])
        generalize ins.map (fun y => y.testBit kb) = row at *
        have hir := HIR.out
        have HSL := Lib.hid hslen
        obtain ⟨As, cs, rfl, -, -⟩ := hs5.rd
        have n1 : ((ss.length : Int) != (ls.length : Int)) = false := by simp [hslen]
        clear hslen
        go_wp2_with fail
        refine (Eval_walk w w5 _ g ns hs5.swap hwf hwi (by omega) _ row (fun _ _ h => (h.pull 1).rd) hir _ ls (fun _ _ h => (h.pull 3).rd) hpx (by have := HPL.out; omega)).mono ?_
        clear hir
        rintro e w6 ⟨ve, rfl, hs6⟩
        rw [hev] at hs6
        obtain ⟨Ae, ce, rfl, -, -⟩ := hs6.rd
        have hlm : (ss.map (fun x => x.testBit kb)).length = ss.length := by simp
        have n2 : (((ss.map (fun x => x.testBit kb)).length : Int) != (ls.length : Int)) = false := by simp [HSL.out]
        have HLM := Lib.hid hlm; clear hlm
        have hlb : ls.length ≤ 1073741824 := by have := HPL.out; omega
        have HE := Lib.hid (show ∀ (j x : Nat), ss[j]? = some x → (ss.map (fun x => x.testBit kb))[j]? = some (x.testBit kb) from fun j x h => by rw [List.getElem?_map, h]; rfl)
        generalize ss.map (fun x => x.testBit kb) = es at *
        clear hs5 hsr hev
        go_wp2_with (first | (go_at_call 12; refine (no_walk _ 0 (by decide) (by decide)).mono ?_; rintro e w' ⟨rfl, rfl⟩))
        go_loopg [18] ls.length (fun k i wr => ∃ j : Nat, j ≤ ls.length ∧ k = ls.length - j ∧ i = .int .i64 j ∧ SL.St w (Arr cBool 4 (.slice Ae es.length ce) es :: Graph g ns :: Arr (cNat .u64) 33 (.slice As ss.length cs) ss :: _ :: _ :: _ :: [Old w]) wr)
        case atStart => exact ⟨0, Nat.zero_le _, rfl, rfl, hs6⟩
        case round =>
          clear hs6
          obtain ⟨j, hj, hgk, rfl, hsr⟩ := hrel
          subst hgk
          by_cases hlt : j < ls.length
          · have hls : j < ss.length := by have := HSL.out; omega
            have hle : j < es.length := by have := HSL.out; have := HLM.out; omega
            obtain ⟨A1, c1, hv1, -, hc1⟩ := hsr.rd
            obtain ⟨ad1, hA1, hcell1⟩ := rd_at_bool hc1 j hle
            obtain rfl : Ae = some ad1 := by
              have : A1 = Ae := by injection hv1 with h1; exact h1.symm
              rw [← this]; exact hA1
            obtain ⟨A2, c2, hv2, -, hc2⟩ := (hsr.pull 2).rd
            obtain ⟨ad2, hA2, hcell2⟩ := rd_at hc2 j hls
            obtain rfl : As = some ad2 := by
              have : A2 = As := by injection hv2 with h1; exact h1.symm
              rw [← this]; exact hA2
            have hxb := hsbd _ (List.getElem_mem hls)
            have hex : es[j] = (ss[j]).testBit kb := by
              have := HE.out j _ (List.getElem?_eq_getElem hls)
              rw [List.getElem?_eq_getElem hle] at this
              injection this
            clear hc1 hv1 hA1 hc2 hv2 hA2
            rw [hex] at hcell1
            clear hex
            generalize ss[j] = x at *
            have hbit := bit_of x kb hxb
            have hcmp : (!(x.testBit kb) == x.testBit kb) = false := by cases x.testBit kb <;> rfl
            have r1 := Ext.rule hcell1
            have r2 := Ext.rule hcell2
            go_wp2_with fail
            -- region 24 of cadence/cadencelaw10.AigSims: 0:move 1:move 2:indexAddr 3:load 4:move 5:binOp 6:binOp 7:binOp 8:move 9:move 10:indexAddr 11:load 12:binOp
            refine wp_region_plan (Ext wr) [(0, 0), (1, 0), (2, 0), (3, 1), (4, 1), (5, 0), (6, 0), (7, 0), (8, 1), (9, 1), (10, 1), (11, 1)] 12 (by kernel_rfl) (by kernel_rfl) ?_
            have hx0 : Ext wr wr.drew := Ext.refl wr
            iterate 3 (first | (refine plan_skip rfl rfl ?_; simp only [Act.put, List.setIfInBounds_toArray, List.set_cons_zero, List.set_cons_succ]) | (refine plan_pure (v := ?_) rfl rfl (fun _ => ?_) ?_; rotate_left; (focus (go_simp; try with_reducible rfl; done)); simp only [Act.put, List.setIfInBounds_toArray, List.set_cons_zero, List.set_cons_succ]))
            iterate 2 (first | (refine plan_held_skip rfl rfl (by assumption) ?_; simp only [Act.put, List.setIfInBounds_toArray, List.set_cons_zero, List.set_cons_succ]) | (refine plan_held (v := ?_) rfl rfl (fun _ hSw => ?_) (by assumption) ?_; rotate_left; (focus (go_simp; try with_reducible rfl; done)); simp only [Act.put, List.setIfInBounds_toArray, List.set_cons_zero, List.set_cons_succ]))
            iterate 3 (first | (refine plan_skip rfl rfl ?_; simp only [Act.put, List.setIfInBounds_toArray, List.set_cons_zero, List.set_cons_succ]) | (refine plan_pure (v := ?_) rfl rfl (fun _ => ?_) ?_; rotate_left; (focus (go_simp; try with_reducible rfl; done)); simp only [Act.put, List.setIfInBounds_toArray, List.set_cons_zero, List.set_cons_succ]))
            iterate 4 (first | (refine plan_held_skip rfl rfl (by assumption) ?_; simp only [Act.put, List.setIfInBounds_toArray, List.set_cons_zero, List.set_cons_succ]) | (refine plan_held (v := ?_) rfl rfl (fun _ hSw => ?_) (by assumption) ?_; rotate_left; (focus (go_simp; try with_reducible rfl; done)); simp only [Act.put, List.setIfInBounds_toArray, List.set_cons_zero, List.set_cons_succ]))
            refine plan_end ?_
            simp only [List.drop]
            go_wp2_with fail
            try refine NoPanic.normal ?_
            go_wp2_with fail
            go_roundg (ls.length - (j + 1))
            case measure => omega
            case rel => exact ⟨j + 1, by omega, rfl, by go_num, hsr.drew⟩
          · go_wp2_with fail
            go_ret
            exact ⟨rfl, hsr.sel [] 6⟩
    · go_wp2_with fail
      refine (Sim_walk w wr _ g ns (hsr.pull 3) hwf hwi (by omega) _ ins (fun _ _ h => (h.pull 1).rd) (HIL.out.trans HN.out.symm) hib _ ls (fun _ _ h => (h.pull 2).rd) hpx (by have := HPL.out; omega)).mono ?_
      rintro e w5 ⟨vs, rfl, hs5⟩
      have hrow : (fun i => (ins.map (fun y => y.testBit kb)).getD i false) = (fun i => (ins.getD i 0).testBit kb) := by
        funext i
        by_cases hi : i < ins.length
        · simp [List.getD_eq_getElem?_getD, List.getElem?_eq_getElem hi]
        · simp [List.getD_eq_getElem?_getD, List.getElem?_eq_none (Nat.le_of_not_lt hi)]
      obtain ⟨V, hV⟩ := exists_val hwf (fun i => (ins.getD i 0).testBit kb)
      have hsb := simM_bit hwf hpx kb hkb V hV
      have hev : evalM ns (ins.map (fun y => y.testBit kb)) ls = (simM ns ins ls).map (fun x => x.testBit kb) := by
        rw [hsb]
        exact evalM_val hwf hpx V (by rw [hrow]; exact hV) bitOf rfl
      have hslen : (simM ns ins ls).length = ls.length := by simp [simM]
      have hsbd := simM_lt (ns := ns) hib ls
      generalize simM ns ins ls = ss at *
      clear hsb hV hrow
      have HIR := Lib.hid (show (ins.map (fun y => y.testBit kb)).length = (inputsOf ns).length by rw [List.length_map, HIL.out, HN.out])
      generalize ins.map (fun y => y.testBit kb) = row at *
      have hir := HIR.out
      have HSL := Lib.hid hslen
      obtain ⟨As, cs, rfl, -, -⟩ := hs5.rd
      have n1 : ((ss.length : Int) != (ls.length : Int)) = false := by simp [hslen]
      clear hslen
      go_wp2_with fail
      refine (Eval_walk w w5 _ g ns hs5.swap hwf hwi (by omega) _ row (fun _ _ h => (h.pull 1).rd) hir _ ls (fun _ _ h => (h.pull 3).rd) hpx (by have := HPL.out; omega)).mono ?_
      clear hir
      rintro e w6 ⟨ve, rfl, hs6⟩
      rw [hev] at hs6
      obtain ⟨Ae, ce, rfl, -, -⟩ := hs6.rd
      have hlm : (ss.map (fun x => x.testBit kb)).length = ss.length := by simp
      have n2 : (((ss.map (fun x => x.testBit kb)).length : Int) != (ls.length : Int)) = false := by simp [HSL.out]
      have HLM := Lib.hid hlm; clear hlm
      have hlb : ls.length ≤ 1073741824 := by have := HPL.out; omega
      have HE := Lib.hid (show ∀ (j x : Nat), ss[j]? = some x → (ss.map (fun x => x.testBit kb))[j]? = some (x.testBit kb) from fun j x h => by rw [List.getElem?_map, h]; rfl)
      generalize ss.map (fun x => x.testBit kb) = es at *
      clear hs5 hsr hev
      go_wp2_with (first | (go_at_call 12; refine (no_walk _ 0 (by decide) (by decide)).mono ?_; rintro e w' ⟨rfl, rfl⟩))
      go_loopg [18] ls.length (fun k i wr => ∃ j : Nat, j ≤ ls.length ∧ k = ls.length - j ∧ i = .int .i64 j ∧ SL.St w (Arr cBool 4 (.slice Ae es.length ce) es :: Graph g ns :: Arr (cNat .u64) 33 (.slice As ss.length cs) ss :: _ :: _ :: _ :: [Old w]) wr)
      case atStart => exact ⟨0, Nat.zero_le _, rfl, rfl, hs6⟩
      case round =>
        clear hs6
        obtain ⟨j, hj, hgk, rfl, hsr⟩ := hrel
        subst hgk
        by_cases hlt : j < ls.length
        · have hls : j < ss.length := by have := HSL.out; omega
          have hle : j < es.length := by have := HSL.out; have := HLM.out; omega
          obtain ⟨A1, c1, hv1, -, hc1⟩ := hsr.rd
          obtain ⟨ad1, hA1, hcell1⟩ := rd_at_bool hc1 j hle
          obtain rfl : Ae = some ad1 := by
            have : A1 = Ae := by injection hv1 with h1; exact h1.symm
            rw [← this]; exact hA1
          obtain ⟨A2, c2, hv2, -, hc2⟩ := (hsr.pull 2).rd
          obtain ⟨ad2, hA2, hcell2⟩ := rd_at hc2 j hls
          obtain rfl : As = some ad2 := by
            have : A2 = As := by injection hv2 with h1; exact h1.symm
            rw [← this]; exact hA2
          have hxb := hsbd _ (List.getElem_mem hls)
          have hex : es[j] = (ss[j]).testBit kb := by
            have := HE.out j _ (List.getElem?_eq_getElem hls)
            rw [List.getElem?_eq_getElem hle] at this
            injection this
          clear hc1 hv1 hA1 hc2 hv2 hA2
          rw [hex] at hcell1
          clear hex
          generalize ss[j] = x at *
          have hbit := bit_of x kb hxb
          have hcmp : (!(x.testBit kb) == x.testBit kb) = false := by cases x.testBit kb <;> rfl
          have r1 := Ext.rule hcell1
          have r2 := Ext.rule hcell2
          go_wp2_with fail
          -- region 24 of cadence/cadencelaw10.AigSims: 0:move 1:move 2:indexAddr 3:load 4:move 5:binOp 6:binOp 7:binOp 8:move 9:move 10:indexAddr 11:load 12:binOp
          refine wp_region_plan (Ext wr) [(0, 0), (1, 0), (2, 0), (3, 1), (4, 1), (5, 0), (6, 0), (7, 0), (8, 1), (9, 1), (10, 1), (11, 1)] 12 (by kernel_rfl) (by kernel_rfl) ?_
          have hx0 : Ext wr wr.drew := Ext.refl wr
          iterate 3 (first | (refine plan_skip rfl rfl ?_; simp only [Act.put, List.setIfInBounds_toArray, List.set_cons_zero, List.set_cons_succ]) | (refine plan_pure (v := ?_) rfl rfl (fun _ => ?_) ?_; rotate_left; (focus (go_simp; try with_reducible rfl; done)); simp only [Act.put, List.setIfInBounds_toArray, List.set_cons_zero, List.set_cons_succ]))
          iterate 2 (first | (refine plan_held_skip rfl rfl (by assumption) ?_; simp only [Act.put, List.setIfInBounds_toArray, List.set_cons_zero, List.set_cons_succ]) | (refine plan_held (v := ?_) rfl rfl (fun _ hSw => ?_) (by assumption) ?_; rotate_left; (focus (go_simp; try with_reducible rfl; done)); simp only [Act.put, List.setIfInBounds_toArray, List.set_cons_zero, List.set_cons_succ]))
          iterate 3 (first | (refine plan_skip rfl rfl ?_; simp only [Act.put, List.setIfInBounds_toArray, List.set_cons_zero, List.set_cons_succ]) | (refine plan_pure (v := ?_) rfl rfl (fun _ => ?_) ?_; rotate_left; (focus (go_simp; try with_reducible rfl; done)); simp only [Act.put, List.setIfInBounds_toArray, List.set_cons_zero, List.set_cons_succ]))
          iterate 4 (first | (refine plan_held_skip rfl rfl (by assumption) ?_; simp only [Act.put, List.setIfInBounds_toArray, List.set_cons_zero, List.set_cons_succ]) | (refine plan_held (v := ?_) rfl rfl (fun _ hSw => ?_) (by assumption) ?_; rotate_left; (focus (go_simp; try with_reducible rfl; done)); simp only [Act.put, List.setIfInBounds_toArray, List.set_cons_zero, List.set_cons_succ]))
          refine plan_end ?_
          simp only [List.drop]
          go_wp2_with fail
          try refine NoPanic.normal ?_
          go_wp2_with fail
          go_roundg (ls.length - (j + 1))
          case measure => omega
          case rel => exact ⟨j + 1, by omega, rfl, by go_num, hsr.drew⟩
        · go_wp2_with fail
          go_ret
          exact ⟨rfl, hsr.sel [] 6⟩
end Go.Proofs.Ytjllogellpfpkaa
