/- The program's Eliminate. -/
import Derived.Test.YtnmkdhoijdoccaaDoorCnTd
import Derived.Test.YtnmkdhoijdoccaaDoorCnEq
import Derived.Test.YtnmkdhoijdoccaaDoorOrd2
import Derived.Test.YtnmkdhoijdoccaaDoorCnB
import Derived.Test.YtnmkdhoijdoccaaDoorCnH
import Derived.Test.YtnmkdhoijdoccaaDoorCnRs
set_option linter.unusedVariables false
set_option linter.unusedSimpArgs false
namespace Go.Proofs.YtnmkdhoijdoccaaDoor
open Go Go.RowKit SL

set_option maxRecDepth 100000 in
set_option maxHeartbeats 16000000 in
theorem eliminate_walk (w0 w : World) (l : List HP) (h : SL.St w0 l w) (vars : Int) (hv : I64 vars) (vf : Value) (cls : List (List Int)) (hr : Ent l (Rd2 (cInt .i64) vf cls)) (hI : ∀ c ∈ cls, ∀ x ∈ c, I64 x) (ht : Ent l Tab) (v : Int) (hvI : I64 v) :
    Calls Tryd.prog 20 #[.agg #[.int .i64 vars, vf], .int .i64 v] w fun e w' => ∃ v', e = .returned (.tuple #[.agg #[.int .i64 (elimM vars cls v).1, v'], .int .i64 (elimM vars cls v).2.2]) ∧ SL.St w0 (Arr2 (cInt .i64) 3 51 v' (elimM vars cls v).2.1 :: l) w' := by
  obtain ⟨A, c, rfl, hm, -⟩ := (hr.use h).at
  unfold maxLen at hm
  have h1 := (h.alloc (.cells #[.int .i64 vars, .slice A cls.length c] 24)).alloc (.cells #[.int .i64 0, .slice none 0 0] 24)
  simp only [World.size_alloc] at h1
  have cw := check_walk w0 _ _ h1 vars hv (.slice A cls.length c) cls (Ent.tail (Ent.tail hr)) hI
  have hcv := checkM_vals vars cls
  have hcok := @checkM_ok vars cls
  have hU : elimM vars cls v = if (checkM vars cls).2 ≠ 0 then (0, [], (checkM vars cls).2) else if v < 1 ∨ vars < v then (0, [], 20) else
    if 1048576 < (withM v (tidM cls)).length * (againM v (tidM cls)).length then (0, [], 23) else
    if (resAll v (pairsM (withM v (tidM cls)) (againM v (tidM cls))) (restC v (tidM cls))).2 ≠ 0 then (0, [], (resAll v (pairsM (withM v (tidM cls)) (againM v (tidM cls))) (restC v (tidM cls))).2) else
    if (checkM vars (tidM (resAll v (pairsM (withM v (tidM cls)) (againM v (tidM cls))) (restC v (tidM cls))).1)).2 ≠ 0 then (0, [], (checkM vars (tidM (resAll v (pairsM (withM v (tidM cls)) (againM v (tidM cls))) (restC v (tidM cls))).1)).2) else
    (vars, tidM (resAll v (pairsM (withM v (tidM cls)) (againM v (tidM cls))) (restC v (tidM cls))).1, 0) := rfl
  generalize elimM vars cls v = U at *
  generalize hC : checkM vars cls = C at *
  obtain ⟨place, er⟩ := C
  simp only at cw hcv hU hcok
  clear hC
  have HU := Lib.hid hU; clear hU
  obtain ⟨hc1, hc2⟩ := hcv
  have HR := Lib.hid hr
  have a0 := (h1.pull 1).cell 0
  have a1 := (h1.pull 1).cell 1
  clear hr
  go_enter Tryd.func20, Tryd.ntmps20
  go_wp2_with fail
  refine cw.mono ?_
  rintro e w1 ⟨rfl, h2⟩
  generalize w.heap.size = B at *
  clear cw h h1 a0 a1
  have k0 : w1.cell? ⟨B + 1, 0, none⟩ = some (.int .i64 0) := h2.cell 0
  have k1 : w1.cell? ⟨B + 1, 1, none⟩ = some (.slice none 0 0) := h2.cell 1
  have kf0 : w1.frozen? ⟨B + 1, 0, none⟩ = false := h2.free 0
  have kf1 : w1.frozen? ⟨B + 1, 1, none⟩ = false := h2.free 1
  by_cases e0 : er ≠ 0
  · have d0 : (er != 0) = true := by simp [e0]
    have HU2 := Lib.hid (HU.out.trans (if_pos e0)); clear HU e0 hcok
    have hs := (h2.set 0 (.int .i64 0)).set 1 (.slice none 0 0)
    go_wp2_with fail
    generalize World.setCell _ _ _ = wz at hs ⊢
    have b0 := hs.cell 0
    have b1 := hs.cell 1
    refine bodyPost_ret (v := .tuple #[.agg #[.int .i64 0, .slice none 0 0], .int .i64 er]) (by simp [results, Tryd.results20, go_sem, b0, b1]) rfl ⟨_, by rw [HU2.out], ?_⟩
    rw [HU2.out]
    exact (hs.drop.drop).nil2 (cInt .i64) 3 51
  obtain rfl : er = 0 := Decidable.not_not.1 e0
  obtain ⟨v1, v2, v3, hlits⟩ := hcok rfl
  have HU2 := Lib.hid (HU.out.trans (if_neg (by simp))); clear HU
  have g0 : w1.cell? ⟨B, 0, none⟩ = some (.int .i64 vars) := (h2.pull 1).cell 0
  have g1 : w1.cell? ⟨B, 1, none⟩ = some (.slice A cls.length c) := (h2.pull 1).cell 1
  have hLL : ∀ x ∈ cls, x.length ≤ 65536 ∧ ∀ y ∈ x, litOk y = true := fun x hx => ⟨(hlits x hx).1, fun y hy => ((hlits x hx).2 y hy).1⟩
  clear hcok hlits e0
  by_cases e1 : v < 1 ∨ vars < v
  · have HU3 := Lib.hid (HU2.out.trans (if_pos e1)); clear HU2
    have hs := (h2.set 0 (.int .i64 0)).set 1 (.slice none 0 0)
    by_cases e2 : v < 1
    · have d2 : decide (v < 1) = true := decide_eq_true e2
      clear e1 e2
      go_wp2_with fail
      generalize World.setCell _ _ _ = wz at hs ⊢
      have b0 := hs.cell 0
      have b1 := hs.cell 1
      refine bodyPost_ret (v := .tuple #[.agg #[.int .i64 0, .slice none 0 0], .int .i64 20]) (by simp [results, Tryd.results20, go_sem, b0, b1]) rfl ⟨_, by rw [HU3.out], ?_⟩
      rw [HU3.out]
      exact (hs.drop.drop).nil2 (cInt .i64) 3 51
    · have d2 : decide (v < 1) = false := decide_eq_false e2
      have d3 : decide (vars < v) = true := decide_eq_true (e1.resolve_left e2)
      clear e1 e2
      go_wp2_with fail
      generalize World.setCell _ _ _ = wz at hs ⊢
      have b0 := hs.cell 0
      have b1 := hs.cell 1
      refine bodyPost_ret (v := .tuple #[.agg #[.int .i64 0, .slice none 0 0], .int .i64 20]) (by simp [results, Tryd.results20, go_sem, b0, b1]) rfl ⟨_, by rw [HU3.out], ?_⟩
      rw [HU3.out]
      exact (hs.drop.drop).nil2 (cInt .i64) 3 51
  have HU3 := Lib.hid (HU2.out.trans (if_neg e1)); clear HU2
  have d2 : decide (v < 1) = false := decide_eq_false (by omega)
  have d3 : decide (vars < v) = false := decide_eq_false (by omega)
  have e1' : 1 ≤ v ∧ v ≤ vars := by omega
  clear e1
  have TW := tidied_walk w0 w1 _ h2 (.slice A cls.length c) cls (Ent.tail (Ent.tail HR.out)) (fun x hx => ⟨by have := (hLL x hx).1; omega, (hLL x hx).2⟩) (by omega) (Ent.tail (Ent.tail ht))
  have hTf := tid_fit hLL
  have hTl := tidM_len cls
  generalize tidM cls = T at *
  go_wp2_with fail
  refine TW.mono ?_
  rintro e w2 ⟨vT, rfl, h3⟩
  clear TW h2 k0 k1 kf0 kf1 g0 g1
  obtain ⟨Q, hQ, h4⟩ := SL.St.pool_of h3
  obtain ⟨AT, cT, rfl, hQm⟩ := SL.St.ref_form h4
  have hQl : Q.length ≤ 1048576 := by have := congrArg List.length hQ; rw [List.length_map] at this; omega
  have h5 := SL.St.ref_nil (SL.St.ref_nil (SL.St.ref_nil h4))
  clear h3 h4
  go_wp2_with fail
  have hQf : ∀ p ∈ Q, p.2.length ≤ 65536 ∧ ∀ y ∈ p.2, litOk y = true := fun p hp => hTf p.2 (by rw [← hQ]; exact List.mem_map.2 ⟨p, hp, rfl⟩)
  go_loopg [8, 9, 10, 44] Q.length (fun k vw vn vo i wr => ∃ j : Nat, j ≤ Q.length ∧ k = Q.length - j ∧ i = .int .i64 j ∧ SL.St w0 (Ref vw (fW v (Q.take j)) :: Ref vn (fN v (Q.take j)) :: Ref vo (fO v (Q.take j)) :: Ref (.slice AT Q.length cT) Q :: Pool Q :: Blk (B + 1) (.cells #[.int .i64 0, .slice none 0 0] 24 (0, 0)) :: Blk B (.cells #[.int .i64 vars, .slice A cls.length c] 24 (0, 0)) :: l) wr)
  case atStart => exact ⟨0, Nat.zero_le _, rfl, rfl, h5⟩
  case round =>
    clear h5
    obtain ⟨j, hj, hgk, rfl, hsr⟩ := hrel
    subst hgk
    obtain ⟨Aw, cw, rfl, hw1⟩ := SL.St.ref_form hsr
    obtain ⟨An, cn, rfl, hn1⟩ := SL.St.ref_form hsr.drop
    obtain ⟨Ao, co, rfl, ho1⟩ := SL.St.ref_form hsr.drop.drop
    by_cases hlt : j < Q.length
    · obtain ⟨ad, c', hv', hcell⟩ := SL.St.ref_at (hsr.pull 3) j hlt
      obtain rfl : AT = some ad := by injection hv'
      have hrd := SL.St.pool_rd (hsr.pull 4) _ (List.getElem_mem hlt)
      have HW := Lib.hid (filter_take (fun p : Slc × List Int => p.2.contains v) Q hlt)
      have HN := Lib.hid (filter_take (fun p : Slc × List Int => !p.2.contains v && p.2.contains (-v)) Q hlt)
      have HO := Lib.hid (filter_take (fun p : Slc × List Int => !p.2.contains v && !p.2.contains (-v)) Q hlt)
      change Hid (fW v (Q.take (j + 1)) = fW v (Q.take j) ++ _) at HW
      change Hid (fN v (Q.take (j + 1)) = fN v (Q.take j) ++ _) at HN
      change Hid (fO v (Q.take (j + 1)) = fO v (Q.take j) ++ _) at HO
      have bl : ∀ q : Slc × List Int → Bool, ((Q.take j).filter q).length ≤ 1048576 := fun q => by
        have := List.length_filter_le q (Q.take j)
        rw [List.length_take_of_le hj] at this; omega
      have bw : (fW v (Q.take j)).length ≤ 1048576 := bl _
      have bn : (fN v (Q.take j)).length ≤ 1048576 := bl _
      have bo : (fO v (Q.take j)).length ≤ 1048576 := bl _
      clear bl hv'
      generalize fW v (Q.take j) = QW at *
      generalize fN v (Q.take j) = QN at *
      generalize fO v (Q.take j) = QO at *
      generalize Q[j] = p at *
      obtain ⟨⟨sa, sn, sc⟩, x⟩ := p
      replace hcell : wr.cell? (ad.add j) = some (.slice sa sn sc) := hcell
      replace hrd : Rd (cInt .i64) (.slice sa sn sc) x wr := hrd
      simp only at HW HN HO
      have CW := contains_walk wr _ x hrd v
      have CN := contains_walk wr _ x hrd (-v)
      cases q1 : x.contains v with
      | true =>
        rw [q1] at CW
        have HW2 := Lib.hid (show fW v (Q.take (j + 1)) = QW ++ [((sa, sn, sc), x)] by rw [HW.out, q1]; rfl)
        have HN2 := Lib.hid (show fN v (Q.take (j + 1)) = QN by rw [HN.out, q1]; simp)
        have HO2 := Lib.hid (show fO v (Q.take (j + 1)) = QO by rw [HO.out, q1]; simp)
        clear HW HN HO q1 CN
        have hsa := hsr.alloc (.cells #[.slice sa sn sc] 51)
        have HB := Lib.hid bw
        go_wp2_with fail
        refine CW.mono ?_
        rintro e w' ⟨rfl, rfl⟩
        go_wp2_with (at_builtin; go_loud (refine wpList_app rfl _ _ rfl Tryd.underlying22 infoClause rfl (hsa.pull 1) rfl (ys := ([(sa, sn, sc)] : List Slc)) rfl (hsa.rd_blk (d := cSlc) (ys := ([(sa, sn, sc)] : List Slc)) 1 1 rfl rfl (by decide)) (by have := HB.out; simp; omega) (by have := HB.out; simp; omega) ?_); go_loud (intro vo' w7 h7))
        have h8 := SL.St.ref_snoc (x := x) (h7.sel [0] 1)
        go_roundg (Q.length - (j + 1))
        case measure => omega
        case rel => exact ⟨j + 1, by omega, rfl, by go_num, by rw [HW2.out, HN2.out, HO2.out]; exact h8⟩
      | false =>
        rw [q1] at CW
        have HW2 := Lib.hid (show fW v (Q.take (j + 1)) = QW by rw [HW.out, q1]; simp)
        cases q2 : x.contains (-v) with
        | true =>
          rw [q2] at CN
          have HN2 := Lib.hid (show fN v (Q.take (j + 1)) = QN ++ [((sa, sn, sc), x)] by rw [HN.out, q1, q2]; rfl)
          have HO2 := Lib.hid (show fO v (Q.take (j + 1)) = QO by rw [HO.out, q1, q2]; simp)
          clear HW HN HO q1 q2
          have hsa := hsr.alloc (.cells #[.slice sa sn sc] 51)
          have HB := Lib.hid bn
          go_wp2_with fail
          refine CW.mono ?_
          rintro e w' ⟨rfl, rfl⟩
          go_wp2_with fail
          refine CN.mono ?_
          rintro e w' ⟨rfl, rfl⟩
          go_wp2_with (at_builtin; go_loud (refine wpList_app rfl _ _ rfl Tryd.underlying22 infoClause rfl (hsa.pull 2) rfl (ys := ([(sa, sn, sc)] : List Slc)) rfl (hsa.rd_blk (d := cSlc) (ys := ([(sa, sn, sc)] : List Slc)) 1 1 rfl rfl (by decide)) (by have := HB.out; simp; omega) (by have := HB.out; simp; omega) ?_); go_loud (intro vo' w7 h7))
          have h8 := SL.St.ref_snoc (x := x) (h7.sel [0] 1)
          go_roundg (Q.length - (j + 1))
          case measure => omega
          case rel => exact ⟨j + 1, by omega, rfl, by go_num, by rw [HW2.out, HN2.out, HO2.out]; exact h8.sel [1, 0]⟩
        | false =>
          rw [q2] at CN
          have HN2 := Lib.hid (show fN v (Q.take (j + 1)) = QN by rw [HN.out, q1, q2]; simp)
          have HO2 := Lib.hid (show fO v (Q.take (j + 1)) = QO ++ [((sa, sn, sc), x)] by rw [HO.out, q1, q2]; rfl)
          clear HW HN HO q1 q2
          have hsa := hsr.alloc (.cells #[.slice sa sn sc] 51)
          have HB := Lib.hid bo
          go_wp2_with fail
          refine CW.mono ?_
          rintro e w' ⟨rfl, rfl⟩
          go_wp2_with fail
          refine CN.mono ?_
          rintro e w' ⟨rfl, rfl⟩
          go_wp2_with (at_builtin; go_loud (refine wpList_app rfl _ _ rfl Tryd.underlying22 infoClause rfl (hsa.pull 3) rfl (ys := ([(sa, sn, sc)] : List Slc)) rfl (hsa.rd_blk (d := cSlc) (ys := ([(sa, sn, sc)] : List Slc)) 1 1 rfl rfl (by decide)) (by have := HB.out; simp; omega) (by have := HB.out; simp; omega) ?_); go_loud (intro vo' w7 h7))
          have h8 := SL.St.ref_snoc (x := x) (h7.sel [0] 1)
          go_roundg (Q.length - (j + 1))
          case measure => omega
          case rel => exact ⟨j + 1, by omega, rfl, by go_num, by rw [HW2.out, HN2.out, HO2.out]; exact h8.sel [1, 2, 0]⟩
    · obtain rfl : j = Q.length := by omega
      rw [List.take_length] at hsr hw1 hn1 ho1 ⊢
      have e1 : (fW v Q).map Prod.snd = withM v T := by rw [fW_snd, hQ]
      have e2 : (fN v Q).map Prod.snd = againM v T := by rw [fN_snd, hQ]
      have e3 : (fO v Q).map Prod.snd = restC v T := by rw [fO_snd, hQ]
      have HU4 := HU3.out
      rw [← e1, ← e2, ← e3, List.length_map, List.length_map] at HU4
      replace HU4 := Lib.hid HU4
      have hWQ : ∀ p ∈ fW v Q, p ∈ Q := fun p hp => (List.mem_filter.1 hp).1
      have hNQ : ∀ p ∈ fN v Q, p ∈ Q := fun p hp => (List.mem_filter.1 hp).1
      have hOQ : ∀ p ∈ fO v Q, p ∈ Q := fun p hp => (List.mem_filter.1 hp).1
      have bw : (fW v Q).length ≤ 1048576 := by have := List.length_filter_le (fun p : Slc × List Int => p.2.contains v) Q; unfold fW; omega
      have bn : (fN v Q).length ≤ 1048576 := by have := List.length_filter_le (fun p : Slc × List Int => !p.2.contains v && p.2.contains (-v)) Q; unfold fN; omega
      have bo : (fO v Q).length ≤ 1048576 := by have := List.length_filter_le (fun p : Slc × List Int => !p.2.contains v && !p.2.contains (-v)) Q; unfold fO; omega
      generalize fW v Q = QW at *
      generalize fN v Q = QN at *
      generalize fO v Q = QO at *
      clear HU3 e1 e2 e3 hQ hTf hTl
      have hmn := Lib.hid (show (QW.length : Int) * (QN.length : Int) = ((QW.length * QN.length : Nat) : Int) by simp)
      have hmx : QW.length * QN.length ≤ 1048576 * 1048576 := Nat.mul_le_mul bw bn
      by_cases hp : 1048576 < QW.length * QN.length
      · have HU5 := Lib.hid (HU4.out.trans (if_pos hp))
        have hs0 := hsr.pull 5
        have d5 : decide ((1048576 : Int) < (QW.length : Int) * (QN.length : Int)) = true := decide_eq_true (by rw [hmn.out]; omega)
        have w5 : wrap64 ((QW.length : Int) * (QN.length : Int)) = (QW.length : Int) * (QN.length : Int) := by rw [hmn.out]; unfold wrap64; omega
        replace hmx := Lib.hid hmx
        replace hp := Lib.hid hp
        clear HU4 hsr
        have hs := (hs0.set 0 (.int .i64 0)).set 1 (.slice none 0 0)
        have k0 := hs0.cell 0
        have k1 := hs0.cell 1
        have kf0 := hs0.free 0
        have kf1 := hs0.free 1
        go_wp2_with fail
        generalize World.setCell _ _ _ = wz at hs ⊢
        have b0 := hs.cell 0
        have b1 := hs.cell 1
        refine bodyPost_ret (v := .tuple #[.agg #[.int .i64 0, .slice none 0 0], .int .i64 23]) (by simp [results, Tryd.results20, go_sem, b0, b1]) rfl ⟨_, by rw [HU5.out], ?_⟩
        rw [HU5.out]
        exact (hs.sel [] 7).nil2 (cInt .i64) 3 51
      have HU5 := Lib.hid (HU4.out.trans (if_neg hp))
      have d5 : decide ((1048576 : Int) < (QW.length : Int) * (QN.length : Int)) = false := decide_eq_false (by rw [hmn.out]; omega)
      have w5 : wrap64 ((QW.length : Int) * (QN.length : Int)) = (QW.length : Int) * (QN.length : Int) := by rw [hmn.out]; unfold wrap64; omega
      have hs1 := hsr.sel [2, 4, 0, 1] 1
      clear HU4 hsr
      have HA : ∃ RES, RES = resAll v (pairsM ((QW.map Prod.snd).drop 0) (QN.map Prod.snd)) (QO.map Prod.snd) := ⟨_, rfl⟩
      obtain ⟨RES, hRES⟩ := HA
      have HU6 := HU5.out
      rw [show resAll v (pairsM (QW.map Prod.snd) (QN.map Prod.snd)) (QO.map Prod.snd) = RES from hRES.symm] at HU6
      replace HU6 := Lib.hid HU6
      have hL0 : QO.length + (pairsM ((QW.map Prod.snd).drop 0) (QN.map Prod.snd)).length ≤ 2097152 := by
        rw [List.drop_zero, pairs_len, List.length_map, List.length_map]; omega
      replace hRES := Lib.hid hRES
      replace hmx := Lib.hid hmx
      replace hp := Lib.hid hp
      clear HU5
      go_wp2_with fail
      clear w5 d5
      go_loopg [10, 79] QW.length (fun k vo i wr => ∃ (j : Nat) (qo ps : Ent2), j ≤ QW.length ∧ k = QW.length - j ∧ i = .int .i64 j ∧ RES = resAll v (pairsM ((QW.map Prod.snd).drop j) (QN.map Prod.snd)) (qo.map Prod.snd) ∧ (∀ p ∈ qo, p ∈ ps) ∧ (∀ p ∈ Q, p ∈ ps) ∧ (∀ p ∈ ps, p.2.length ≤ 65536 ∧ ∀ y ∈ p.2, litOk y = true) ∧ qo.length + (pairsM ((QW.map Prod.snd).drop j) (QN.map Prod.snd)).length ≤ 2097152 ∧
        SL.St w0 (Ref vo qo :: Pool ps :: Ref (.slice Aw QW.length cw) QW :: Ref (.slice An QN.length cn) QN :: Blk (B + 1) (.cells #[.int .i64 0, .slice none 0 0] 24 (0, 0)) :: Blk B (.cells #[.int .i64 vars, .slice A cls.length c] 24 (0, 0)) :: l) wr)
      case atStart => exact ⟨0, QO, Q, Nat.zero_le _, rfl, rfl, hRES.out, hOQ, fun p hp => hp, hQf, hL0, hs1⟩
      case round =>
        clear hs1 hL0 hRES hOQ hQf
        obtain ⟨j, qo, ps, hj, hgk, rfl, hR, hqo, hQp, hps, hLe, hsr⟩ := hrel
        subst hgk
        have HRS := Lib.hid hR; clear hR
        by_cases hlt : j < QW.length
        · obtain ⟨ad2, c', hv', hcell⟩ := SL.St.ref_at (hsr.pull 2) j hlt
          obtain rfl : Aw = some ad2 := by injection hv'
          have hpw := hWQ _ (List.getElem_mem hlt)
          have hj2 : j < (QW.map Prod.snd).length := by simpa using hlt
          have HRS2 := HRS.out
          rw [pairs_drop _ _ hj2, List.getElem_map] at HRS2 hLe
          replace HRS2 := Lib.hid HRS2
          generalize hRR : pairsM ((QW.map Prod.snd).drop (j + 1)) (QN.map Prod.snd) = R at *
          replace hRR := Lib.hid hRR
          generalize QW[j] = pw at *
          obtain ⟨⟨sa, sn, sc⟩, a⟩ := pw
          replace hcell : wr.cell? (ad2.add j) = some (.slice sa sn sc) := hcell
          simp only at HRS2 hLe
          clear HRS hv'
          go_wp2_with fail
          go_loopg [10, 85] QN.length (fun k vo i wr => ∃ (m : Nat) (qo ps : Ent2), m ≤ QN.length ∧ k = QN.length - m ∧ i = .int .i64 m ∧ RES = resAll v (((QN.map Prod.snd).drop m).map (fun b => (a, b)) ++ R) (qo.map Prod.snd) ∧ (∀ p ∈ qo, p ∈ ps) ∧ (∀ p ∈ Q, p ∈ ps) ∧ (∀ p ∈ ps, p.2.length ≤ 65536 ∧ ∀ y ∈ p.2, litOk y = true) ∧ qo.length + (((QN.map Prod.snd).drop m).map (fun b => (a, b)) ++ R).length ≤ 2097152 ∧
            SL.St w0 (Ref vo qo :: Pool ps :: Ref (.slice (some ad2) QW.length cw) QW :: Ref (.slice An QN.length cn) QN :: Blk (B + 1) (.cells #[.int .i64 0, .slice none 0 0] 24 (0, 0)) :: Blk B (.cells #[.int .i64 vars, .slice A cls.length c] 24 (0, 0)) :: l) wr)
          case atStart => exact ⟨0, qo, ps, Nat.zero_le _, rfl, rfl, HRS2.out, hqo, hQp, hps, hLe, hsr⟩
          case round =>
            clear hsr hLe HRS2 hqo hQp hps hcell qo ps
            obtain ⟨m, qo, ps, hm2, hgk, rfl, hR, hqo, hQp, hps, hLe, hs2⟩ := hrel
            subst hgk
            have HRS := Lib.hid hR; clear hR
            have hpa := hQp _ hpw
            obtain ⟨Ao, co, rfl, ho1⟩ := SL.St.ref_form hs2
            by_cases hltm : m < QN.length
            · obtain ⟨ad3, c', hv', hcell⟩ := SL.St.ref_at (hs2.pull 3) m hltm
              obtain rfl : An = some ad3 := by injection hv'
              have hpb := hQp _ (hNQ _ (List.getElem_mem hltm))
              have hm3 : m < (QN.map Prod.snd).length := by simpa using hltm
              have HRS2 := HRS.out
              rw [row_drop _ _ _ hm3, List.getElem_map] at HRS2 hLe
              replace HRS2 := Lib.hid HRS2
              generalize hLL2 : ((QN.map Prod.snd).drop (m + 1)).map (fun b => (a, b)) ++ R = L at *
              replace hLL2 := Lib.hid hLL2
              generalize QN[m] = pb at *
              obtain ⟨⟨sb, sm, sd⟩, b⟩ := pb
              replace hcell : wr.cell? (ad3.add m) = some (.slice sb sm sd) := hcell
              simp only at HRS2 hLe
              clear HRS hv'
              have RW := resolve_walk w0 wr _ hs2 (.slice sa sn sc) (.slice sb sm sd) a b (Ent.tail (SL.Ent.pool hpa)) (Ent.tail (SL.Ent.pool hpb)) (lit_i64 (hps _ hpa).2) (lit_i64 (hps _ hpb).2) v hvI
              have hfit := @resM_fit a b v
              have HRS3 := HRS2.out
              rw [resAll] at HRS3
              replace HRS3 := Lib.hid HRS3
              generalize resM a b v = RM at *
              obtain ⟨rs, er⟩ := RM
              simp only at HRS3 RW hfit
              clear HRS2
              go_wp2_with fail
              refine RW.mono ?_
              rintro e w3 ⟨vc, rfl, hs3⟩
              clear RW hs2 hcell
              by_cases e5 : er = 0
              · subst e5
                have HRS4 := HRS3.out
                rw [if_neg (by simp)] at HRS4
                replace HRS4 := Lib.hid HRS4
                clear HRS3
                obtain ⟨AS, cS, rfl, -, -⟩ := hs3.rd
                have hsa := hs3.alloc (.cells #[.slice AS rs.length cS] 51)
                have hqb : qo.length ≤ 2097152 := by omega
                have HB := Lib.hid hqb
                go_wp2_with (at_builtin; go_loud (refine wpList_app rfl _ _ rfl Tryd.underlying22 infoClause rfl (hsa.pull 2) rfl (ys := ([(AS, rs.length, cS)] : List Slc)) rfl (hsa.rd_blk (d := cSlc) (ys := ([(AS, rs.length, cS)] : List Slc)) 1 1 rfl rfl (by decide)) (by have := HB.out; simp; omega) (by have := HB.out; simp; omega) ?_); go_loud (intro vo' w7 h7))
                have h8 := SL.St.ref_snoc (x := rs) (h7.sel [0] 1)
                have h9 := SL.St.pool_push (s := (AS, rs.length, cS)) (h8.sel [1, 2, 0])
                go_roundg (QN.length - (m + 1))
                case measure => omega
                case rel =>
                  refine ⟨m + 1, qo ++ [((AS, rs.length, cS), rs)], ((AS, rs.length, cS), rs) :: ps, by omega, rfl, by go_num, ?_, fun p hp => ?_, fun p hp => List.mem_cons_of_mem _ (hQp p hp), fun p hp => ?_, ?_, h9.swap⟩
                  · rw [hLL2.out, List.map_append]; exact HRS4.out
                  · rcases List.mem_append.1 hp with h | h
                    · exact List.mem_cons_of_mem _ (hqo p h)
                    · exact List.mem_cons.2 (.inl (List.mem_singleton.1 h))
                  · rcases List.mem_cons.1 hp with rfl | hp
                    · exact hfit (by trivial)
                    · exact hps p hp
                  · rw [hLL2.out, List.length_append, List.length_singleton]; rw [List.length_cons] at hLe; omega
              · have d6 : (er != 0) = true := by simp [e5]
                have HRS4 := HRS3.out
                rw [if_pos e5] at HRS4
                have HU7 := Lib.hid (show U = (0, [], er) by rw [HU6.out, HRS4]; simp [e5])
                clear HU6 HRS3 HRS4 e5
                have hs0 := hs3.pull 5
                have hs := (hs0.set 0 (.int .i64 0)).set 1 (.slice none 0 0)
                have k0 := hs0.cell 0
                have k1 := hs0.cell 1
                have kf0 := hs0.free 0
                have kf1 := hs0.free 1
                go_wp2_with fail
                generalize World.setCell _ _ _ = wz at hs ⊢
                have b0 := hs.cell 0
                have b1 := hs.cell 1
                refine bodyPost_ret (v := .tuple #[.agg #[.int .i64 0, .slice none 0 0], .int .i64 er]) (by simp [results, Tryd.results20, go_sem, b0, b1]) rfl ⟨_, by rw [HU7.out], ?_⟩
                rw [HU7.out]
                exact (hs.sel [] 7).nil2 (cInt .i64) 3 51
            · obtain rfl : m = QN.length := by omega
              have hd : ((QN.map Prod.snd).drop QN.length).map (fun b => (a, b)) ++ R = R := by rw [List.drop_eq_nil_of_le (by simp)]; rfl
              have HRS2 := HRS.out
              rw [hd] at HRS2 hLe
              replace HRS2 := Lib.hid HRS2
              clear HRS hd
              go_wp2_with fail
              go_roundg (QW.length - (j + 1))
              case measure => omega
              case rel => exact ⟨j + 1, qo, ps, by omega, rfl, by go_num, by rw [hRR.out]; exact HRS2.out, hqo, hQp, hps, by rw [hRR.out]; exact hLe, hs2⟩
        · obtain rfl : j = QW.length := by omega
          have hd : pairsM ((QW.map Prod.snd).drop QW.length) (QN.map Prod.snd) = [] := by rw [List.drop_eq_nil_of_le (by simp)]; rfl
          have HRS2 := HRS.out
          rw [hd, resAll] at HRS2
          rw [hd, List.length_nil] at hLe
          have HU7 := HU6.out
          rw [HRS2, if_neg (by simp)] at HU7
          simp only at HU7
          replace HU7 := Lib.hid HU7
          clear HRS HRS2 HU6 hd
          obtain ⟨Ao, co, rfl, ho1⟩ := SL.St.ref_form hsr
          have hfo : ∀ x ∈ qo.map Prod.snd, x.length ≤ 65536 ∧ ∀ y ∈ x, litOk y = true := fun x hx => by
            obtain ⟨p, hp, rfl⟩ := List.mem_map.1 hx
            exact hps p (hqo p hp)
          have hfg := tid_fit hfo
          have hlen2 : (qo.map Prod.snd).length = qo.length := List.length_map _
          have hpre : ∀ x ∈ qo.map Prod.snd, x.length ≤ 1048576 ∧ ∀ y ∈ x, litOk y = true := fun x hx => ⟨by have := (hfo x hx).1; omega, (hfo x hx).2⟩
          have hgo : SL.St w0 (Blk wr.heap.size (.cells #[.int .i64 0, .slice none 0 0] 24 (0, 0)) :: _) _ := hsr.drew.alloc (.cells #[.int .i64 0, .slice none 0 0] 24)
          have TW := tidied_walk w0 wr.drew _ hsr.drew (.slice Ao qo.length co) (qo.map Prod.snd) (fun _ _ h => SL.St.ref_rd2 h hqo) hpre (by omega) (Ent.tail (Ent.tail (Ent.tail (Ent.tail (Ent.tail (Ent.tail ht))))))
          have TB := tidied_walk w0 _ _ hgo (.slice Ao qo.length co) (qo.map Prod.snd) (fun _ _ h => SL.St.ref_rd2 h.drop hqo) hpre (by omega) (Ent.tail (Ent.tail (Ent.tail (Ent.tail (Ent.tail (Ent.tail (Ent.tail ht)))))))
          generalize tidM (qo.map Prod.snd) = G at *
          obtain ⟨S, hS⟩ : ∃ S : World → Prop, S = fun w' => w'.cell? ⟨B, 0, none⟩ = some (.int .i64 vars) := ⟨_, rfl⟩
          have rk0 : ∀ w' : World, SL.Hd S w' → w'.cell? ⟨B, 0, none⟩ = some (.int .i64 vars) := fun w' h => by unfold SL.Hd at h; rw [hS] at h; exact h
          have mkS : ∀ (w' : World), SL.St w0 (Ref (.slice Ao qo.length co) qo :: Pool ps :: Ref (.slice Aw QW.length cw) QW :: Ref (.slice An QN.length cn) QN :: Blk (B + 1) (.cells #[.int .i64 0, .slice none 0 0] 24 (0, 0)) :: Blk B (.cells #[.int .i64 vars, .slice A cls.length c] 24 (0, 0)) :: l) w' → SL.Hd S w' := fun w' h => by unfold SL.Hd; rw [hS]; exact (h.pull 5).cell 0
          have hx0 : SL.Hd S wr.drew := mkS _ hsr.drew
          have HS := Lib.hid hS; clear hS
          go_wp2_with fail
          refine wp_region_fork (SL.Hd S) [(0, 0), (2, 0), (1, 1)] 3 5 [(4, 0), (5, 2)] 6 [(3, 2), (4, 0)] 6 (by kernel_rfl) (by kernel_rfl) ?_
          iterate 2 (first | (refine planB_skip rfl rfl ?_; simp only [Act.put, List.setIfInBounds_toArray, List.set_cons_zero, List.set_cons_succ]) | (refine planB_pure (v := ?_) rfl rfl (fun _ => ?_) ?_; rotate_left; (focus (go_simp; try with_reducible rfl; done)); simp only [Act.put, List.setIfInBounds_toArray, List.set_cons_zero, List.set_cons_succ]))
          (first | (refine planB_held_skip rfl rfl (by assumption) ?_; simp only [Act.put, List.setIfInBounds_toArray, List.set_cons_zero, List.set_cons_succ]) | (refine planB_held (v := ?_) rfl rfl (fun _ hSw => ?_) (by assumption) ?_; rotate_left; (focus (go_simp; try with_reducible rfl; done)); simp only [Act.put, List.setIfInBounds_toArray, List.set_cons_zero, List.set_cons_succ]))
          refine ⟨?_, ?_⟩
          · ((refine plan_eff rfl (fun K hK => ?_)); go_simp; (refine TW.mono ?_); (rintro e w7 ⟨v7, rfl, hs7⟩); (obtain ⟨A7, c7, rfl, -, -⟩ := hs7.rd2.at); (refine hK _ _ ⟨mkS _ hs7.drop, ?_⟩); clear hK K)
            (first | (refine plan_skip rfl rfl ?_; simp only [Act.put, List.setIfInBounds_toArray, List.set_cons_zero, List.set_cons_succ]) | (refine plan_pure (v := ?_) rfl rfl (fun _ => ?_) ?_; rotate_left; (focus (go_simp; try with_reducible rfl; done)); simp only [Act.put, List.setIfInBounds_toArray, List.set_cons_zero, List.set_cons_succ]))
            have hs8 := hs7.alloc (.cells #[.int .i64 0, .slice none 0 0] 24)
            ((refine plan_eff rfl (fun K hK => ?_)); go_simp; (refine hK _ _ ⟨mkS _ hs8.drop.drop, ?_⟩); clear hK K)
            refine plan_end ?_
            simp only [List.drop]
            have hz := hs7.alloc (.cells #[.int .i64 vars, .slice A7 G.length c7] 24)
            clear rk0 hx0 mkS TW TB hsr HS hgo hs7 hs8
            go_wp2_with fail
            generalize w7.alloc _ = wz at hz ⊢
            generalize w7.heap.size = gb at hz ⊢
            refine NoPanic.normal ?_
            have CW2 := check_walk w0 wz _ hz vars hv (.slice A7 G.length c7) G (Ent.tail Ent.rd2) (fun x hx => lit_i64 (hfg x hx).2)
            generalize checkM vars G = CK at *
            obtain ⟨pl2, er⟩ := CK
            simp only at HU7 CW2
            have g0 := hz.cell 0
            have g1 := hz.cell 1
            go_wp2_with fail
            refine CW2.mono ?_
            rintro e wc ⟨rfl, h9⟩
            clear CW2 hz g0 g1
            have h10 := h9.pull 6
            have k0 := h10.cell 0
            have k1 := h10.cell 1
            have kf0 := h10.free 0
            have kf1 := h10.free 1
            by_cases e7 : er = 0
            · subst e7
              have HU8 := Lib.hid (HU7.out.trans (if_neg (by simp)))
              have g0 := h9.cell 0
              have g1 := h9.cell 1
              have hs := (h10.set 0 (.int .i64 vars)).set 1 (.slice A7 G.length c7)
              clear HU7
              go_wp2_with fail
              generalize World.setCell _ _ _ = wy at hs ⊢
              have b0 := hs.cell 0
              have b1 := hs.cell 1
              refine bodyPost_ret (v := .tuple #[.agg #[.int .i64 vars, .slice A7 G.length c7], .int .i64 0]) (by simp [results, Tryd.results20, go_sem, b0, b1]) rfl ⟨_, by rw [HU8.out], ?_⟩
              rw [HU8.out]
              exact hs.sel [2] 7
            · have d7 : (er != 0) = true := by simp [e7]
              have HU8 := Lib.hid (HU7.out.trans (if_pos e7))
              have hs := (h10.set 0 (.int .i64 0)).set 1 (.slice none 0 0)
              clear HU7 e7
              go_wp2_with fail
              generalize World.setCell _ _ _ = wy at hs ⊢
              have b0 := hs.cell 0
              have b1 := hs.cell 1
              refine bodyPost_ret (v := .tuple #[.agg #[.int .i64 0, .slice none 0 0], .int .i64 er]) (by simp [results, Tryd.results20, go_sem, b0, b1]) rfl ⟨_, by rw [HU8.out], ?_⟩
              rw [HU8.out]
              exact (hs.sel [] 8).nil2 (cInt .i64) 3 51
          · ((refine plan_eff rfl (fun K hK => ?_)); go_simp; (refine hK _ _ ⟨mkS _ hgo.drop, ?_⟩); clear hK K)
            ((refine plan_eff rfl (fun K hK => ?_)); go_simp; (refine TB.mono ?_); (rintro e w7 ⟨v7, rfl, hs7⟩); (obtain ⟨A7, c7, rfl, -, -⟩ := hs7.rd2.at); (refine hK _ _ ⟨mkS _ hs7.drop.drop, ?_⟩); clear hK K)
            (first | (refine plan_skip rfl rfl ?_; simp only [Act.put, List.setIfInBounds_toArray, List.set_cons_zero, List.set_cons_succ]) | (refine plan_pure (v := ?_) rfl rfl (fun _ => ?_) ?_; rotate_left; (focus (go_simp; try with_reducible rfl; done)); simp only [Act.put, List.setIfInBounds_toArray, List.set_cons_zero, List.set_cons_succ]))
            refine plan_end ?_
            simp only [List.drop]
            have hs8 := hs7.swap
            clear rk0 hx0 mkS TW TB hsr HS hgo hs7
            have hz := (hs8.set 0 (.int .i64 vars)).set 1 (.slice A7 G.length c7)
            have k0 := hs8.cell 0
            have k1 := hs8.cell 1
            have kf0 := hs8.free 0
            have kf1 := hs8.free 1
            go_wp2_with fail
            generalize World.setCell _ _ _ = wz at hz ⊢
            clear k0 k1 kf0 kf1 hs8
            refine NoPanic.normal ?_
            have CW2 := check_walk w0 wz _ hz vars hv (.slice A7 G.length c7) G (Ent.tail Ent.rd2) (fun x hx => lit_i64 (hfg x hx).2)
            generalize checkM vars G = CK at *
            obtain ⟨pl2, er⟩ := CK
            simp only at HU7 CW2
            have g0 := hz.cell 0
            have g1 := hz.cell 1
            go_wp2_with fail
            refine CW2.mono ?_
            rintro e wc ⟨rfl, h9⟩
            clear CW2 hz g0 g1
            have h10 := h9.pull 6
            have k0 := h10.cell 0
            have k1 := h10.cell 1
            have kf0 := h10.free 0
            have kf1 := h10.free 1
            by_cases e7 : er = 0
            · subst e7
              have HU8 := Lib.hid (HU7.out.trans (if_neg (by simp)))
              have g0 := h9.cell 0
              have g1 := h9.cell 1
              have hs := (h10.set 0 (.int .i64 vars)).set 1 (.slice A7 G.length c7)
              clear HU7
              go_wp2_with fail
              generalize World.setCell _ _ _ = wy at hs ⊢
              have b0 := hs.cell 0
              have b1 := hs.cell 1
              refine bodyPost_ret (v := .tuple #[.agg #[.int .i64 vars, .slice A7 G.length c7], .int .i64 0]) (by simp [results, Tryd.results20, go_sem, b0, b1]) rfl ⟨_, by rw [HU8.out], ?_⟩
              rw [HU8.out]
              exact hs.sel [2] 7
            · have d7 : (er != 0) = true := by simp [e7]
              have HU8 := Lib.hid (HU7.out.trans (if_pos e7))
              have hs := (h10.set 0 (.int .i64 0)).set 1 (.slice none 0 0)
              clear HU7 e7
              go_wp2_with fail
              generalize World.setCell _ _ _ = wy at hs ⊢
              have b0 := hs.cell 0
              have b1 := hs.cell 1
              refine bodyPost_ret (v := .tuple #[.agg #[.int .i64 0, .slice none 0 0], .int .i64 er]) (by simp [results, Tryd.results20, go_sem, b0, b1]) rfl ⟨_, by rw [HU8.out], ?_⟩
              rw [HU8.out]
              exact (hs.sel [] 8).nil2 (cInt .i64) 3 51
end Go.Proofs.YtnmkdhoijdoccaaDoor
