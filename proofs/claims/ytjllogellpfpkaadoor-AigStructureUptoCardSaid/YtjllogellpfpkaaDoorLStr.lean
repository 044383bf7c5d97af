/- The law AigStructure. -/
import Derived.Test.YtjllogellpfpkaaDoorAigT
import Derived.Test.YtjllogellpfpkaaDoorMkO
import Derived.Test.YtjllogellpfpkaaDoorMkE
import Derived.Test.YtjllogellpfpkaaDoorPrC
set_option linter.unusedVariables false
set_option linter.unusedSimpArgs false
namespace Go.Proofs.YtjllogellpfpkaaDoor
open Go Go.RowKit SL

theorem infoMade : (Tryd.prog.info? 28).map (fun i => (i.zero, i.size, i.bytes)) = some (some (.agg #[.int .i64 0, .int .i64 0, .int .i64 0, .int .i64 0]), 4, 32) := by kernel_rfl
theorem firstM_in (n : Nat) : ∀ s ∈ firstM n, MkIn s := fun s hs => by
  rw [(List.mem_replicate.1 hs).2]
  refine ⟨⟨?_, ?_⟩, ⟨?_, ?_⟩, ⟨?_, ?_⟩, ?_, ?_⟩ <;> decide
/-- The cells of one making in a row that is read. -/
theorem made_at {w : World} {A : Option Addr} {script : List Mk} {j : Nat} (hlt : j < script.length) (hc : ∀ (i : Nat) (x : Mk), script[i]? = some x → ∃ ad, A = some ad ∧ ∀ (k : Nat) (u : Value), (cMade.enc x)[k]? = some u → w.cell? (ad.add (i * cMade.sz + k)) = some u) :
    ∃ ad, A = some ad ∧ w.cell? (ad.add (j * 4)) = some (.int .i64 script[j].1) ∧ w.cell? ⟨(ad.add (j * 4)).block, (ad.add (j * 4)).off + 1, none⟩ = some (.int .i64 script[j].2.1) ∧ w.cell? ⟨(ad.add (j * 4)).block, (ad.add (j * 4)).off + 2, none⟩ = some (.int .i64 script[j].2.2.1) ∧ w.cell? ⟨(ad.add (j * 4)).block, (ad.add (j * 4)).off + 3, none⟩ = some (.int .i64 script[j].2.2.2) := by
  obtain ⟨ad, hA, hcell⟩ := hc j script[j] (List.getElem?_eq_getElem hlt)
  have q0 := hcell 0 _ rfl
  have q1 := hcell 1 _ rfl
  have q2 := hcell 2 _ rfl
  have q3 := hcell 3 _ rfl
  simp only [cMade, Nat.add_zero] at q0 q1 q2 q3
  rw [add_form _ _ _ (by decide)] at q1 q2 q3
  exact ⟨ad, hA, q0, q1, q2, q3⟩

set_option maxRecDepth 100000 in
set_option maxHeartbeats 8000000 in
theorem struct_walk (w : World) (htab : Tab w) (v : Value) (script : List Mk) (hr : Ent [Old w] (Rd cMade v script)) (hin : ∀ s ∈ script, MkIn s) (hl : script.length ≤ 2097152)
    (vu : Value) (other : List Mk) (hru : Ent [Old w] (Rd cMade vu other)) (hinu : ∀ s ∈ other, MkIn s) (hlu : other.length ≤ 2097152)
    (vo : Value) (roots : List Int) (hro : Ent [Old w] (Rd (cInt .i64) vo roots)) (hino : ∀ i ∈ roots, -9223372036854775808 ≤ i ∧ i ≤ 9223372036854775807) (hlo : roots.length ≤ 2097152) :
    Calls Tryd.prog 3 #[v, vu, vo] w fun e w' => e = .returned (.bool true) ∧ SL.St w [Old w] w' := by
  have uT : Ent [Old w] Tab := tab_old htab
  have hcr := count_rest script
  have hco := count_rest other
  obtain ⟨A, c, hv, hm, -⟩ := hr.use (St.start w)
  obtain ⟨Au, cu, hvu, hmu, -⟩ := hru.use (St.start w)
  obtain ⟨Ao, co, hvo, hmo, -⟩ := hro.use (St.start w)
  subst hv hvu hvo
  unfold maxLen at hm hmu hmo
  go_enter Tryd.func3, Tryd.ntmps3
  go_wp2_with fail
  refine (New_walk w w _ (St.start w)).mono ?_
  rintro e w1 ⟨g, rfl, hs1⟩
  go_wp2_with fail
  refine (New_walk w w1 _ hs1).mono ?_
  rintro e w2 ⟨h, rfl, hs2⟩
  go_wp2_with fail
  refine (live_walk w w2 _ hs2).mono ?_
  rintro e w3 ⟨rfl, hs3⟩
  have hs4 := hs3.rows_nil cMade 28
  clear hs1 hs2 hs3
  go_wp2_with fail
  go_loopg [9, 10, 12] script.length (fun k n vr i wr => ∃ j : Nat, j ≤ script.length ∧ k = script.length - j ∧ i = .int .i64 j ∧ n = .int .i64 (countM (script.take j)) ∧ SL.St w (Arr cMade 28 vr (restM (script.take j)) :: Graph h [(0, 0)] :: Graph g [(0, 0)] :: [Old w]) wr)
  case atStart => exact ⟨0, Nat.zero_le _, rfl, rfl, rfl, hs4⟩
  case round =>
    clear hs4
    obtain ⟨j, hj, hgk, rfl, rfl, hsr⟩ := hrel
    subst hgk
    by_cases hlt : j < script.length
    · obtain ⟨A', c', hv, -, hc⟩ := hr.use (hsr.sel [] 3)
      obtain ⟨ad, hA', q0, q1, q2, q3⟩ := made_at hlt hc
      obtain rfl : A = some ad := by
        have : A' = A := by injection hv with h1; exact h1.symm
        rw [← this]; exact hA'
      have HC := Lib.hid (show countM (script.take (j + 1)) = countM (script.take j) + if script[j].1 < 2 ∨ 6 < script[j].1 then 1 else 0 by rw [List.take_succ_eq_append_getElem hlt, countM_snoc]; simp only [isIn_iff])
      have HR := Lib.hid (show restM (script.take (j + 1)) = restM (script.take j) ++ if script[j].1 < 2 ∨ 6 < script[j].1 then [] else [script[j]] by rw [List.take_succ_eq_append_getElem hlt, restM_snoc]; simp only [isIn_iff])
      have hcr2 := count_rest (script.take j)
      rw [List.length_take_of_le hj] at hcr2
      obtain ⟨hK, -⟩ := hin _ (List.getElem_mem hlt)
      clear hc hv hA'
      generalize script[j] = s at *
      obtain ⟨K, a, b, d⟩ := s
      simp only at q0 q1 q2 q3 hK HC HR
      generalize countM (script.take j) = n at *
      generalize restM (script.take j) = rs at *
      obtain ⟨Av, cv, rfl, -, -⟩ := hsr.rd
      obtain ⟨hK1, hK2⟩ := hK
      by_cases h1 : K < 2
      · have HC2 := Lib.hid HC.out; clear HC
        go_wp2_with fail
        go_roundg (script.length - (j + 1))
        case measure => omega
        case rel =>
          refine ⟨j + 1, by omega, rfl, by go_num, ?_, ?_⟩
          · rw [HC2.out, if_pos (.inl h1)]; go_num
          · rw [HR.out, if_pos (.inl h1), List.append_nil]; exact hsr
      · by_cases h2 : 6 < K
        · go_wp2_with fail
          go_roundg (script.length - (j + 1))
          case measure => omega
          case rel =>
            refine ⟨j + 1, by omega, rfl, by go_num, ?_, ?_⟩
            · rw [HC.out, if_pos (.inr h2)]; go_num
            · rw [HR.out, if_pos (.inr h2), List.append_nil]; exact hsr
        · have hsa := hsr.alloc (.cells #[.int .i64 K, .int .i64 a, .int .i64 b, .int .i64 d] 28)
          have hno : ¬ (K < 2 ∨ 6 < K) := by omega
          have HNO := Lib.hid hno; clear hno
          go_wp2_with (first | (at_builtin; go_loud (refine wpList_app rfl _ _ rfl Tryd.underlying22 infoMade rfl (hsa.pull 1) rfl (ys := [(K, a, b, d)]) rfl (hsa.rd_blk (d := cMade) (ys := [(K, a, b, d)]) 1 1 rfl rfl (by decide)) (by simp; omega) (by simp; omega) ?_); intro vo' w7 hs7))
          go_roundg (script.length - (j + 1))
          case measure => omega
          case rel =>
            refine ⟨j + 1, by omega, rfl, by go_num, ?_, ?_⟩
            · rw [HC.out, if_neg HNO.out]; rfl
            · rw [HR.out, if_neg HNO.out]; exact hs7.sel [0, 2, 3] 1
    · obtain rfl : j = script.length := by omega
      rw [List.take_length] at hsr ⊢
      have hrs := restM_in script
      have hrm : ∀ s ∈ restM script, MkIn s := fun s hs => hin s (restM_sub s hs)
      have hsat := fun j (hj : j ≤ (restM script).length) => struct_at script other hl hlu j hj
      have hz := secM_zero script other
      have hsucc := fun j (hj : j < (restM script).length) => secM_succ script other hj
      have hlaw := struct_law script other hl hlu roots
      have hfst : fstM script (restM script).length = madeM (firstM (countM script) ++ restM script) := by unfold fstM; rw [List.take_length]
      obtain ⟨fN, rN, bN1, bN2, bN3, bN4⟩ := hsat _ (Nat.le_refl _)
      rw [hfst] at rN bN1
      generalize secM script other = S at *
      have hs5 := hsr.rows_nil cMade 28
      clear hsr
      generalize hIq : countM script = I at *
      clear hIq
      go_wp2_with fail
      go_loopg [13, 14] I (fun k vf i wr => ∃ j : Nat, j ≤ I ∧ k = I - j ∧ i = .int .i64 j ∧ SL.St w (Arr cMade 28 vf (firstM j) :: Arr cMade 28 _ (restM script) :: Graph h [(0, 0)] :: Graph g [(0, 0)] :: [Old w]) wr)
      case atStart => exact ⟨0, Nat.zero_le _, rfl, rfl, hs5⟩
      case round =>
        clear hs5
        obtain ⟨j, hj, hgk, rfl, hsr⟩ := hrel
        subst hgk
        have hfl : (firstM j).length = j := by simp [firstM]
        by_cases hlt : j < I
        · have HF := Lib.hid (firstM_succ j)
          have hsa := hsr.alloc (.cells #[.int .i64 1, .int .i64 0, .int .i64 0, .int .i64 0] 28)
          generalize firstM j = fs at *
          go_wp2_with (first | (at_builtin; go_loud (refine wpList_app rfl _ _ rfl Tryd.underlying22 infoMade rfl (hsa.pull 1) rfl (ys := [(1, 0, 0, 0)]) rfl (hsa.rd_blk (d := cMade) (ys := [(1, 0, 0, 0)]) 1 1 rfl rfl (by decide)) (by simp; omega) (by simp; omega) ?_); intro vo' w7 hs7))
          go_roundg (I - (j + 1))
          case measure => omega
          case rel => exact ⟨j + 1, by omega, rfl, by go_num, by rw [HF.out]; exact hs7.sel [0, 2, 3, 4] 1⟩
        · obtain rfl : j = I := by omega
          have hs6 := hsr.rows_nil cMade 28
          clear hsr
          go_wp2_with fail
          go_loopg [11, 15] other.length (fun k vf i wr => ∃ i' : Nat, i' ≤ other.length ∧ k = other.length - i' ∧ i = .int .i64 i' ∧ SL.St w (Arr cMade 28 vf (restM (other.take i')) :: Arr cMade 28 _ (firstM j) :: Arr cMade 28 _ (restM script) :: Graph h [(0, 0)] :: Graph g [(0, 0)] :: [Old w]) wr)
          case atStart => exact ⟨0, Nat.zero_le _, rfl, rfl, hs6⟩
          case round =>
            clear hs6
            obtain ⟨i, hi, hgk, rfl, hsr⟩ := hrel
            subst hgk
            by_cases hlt2 : i < other.length
            · obtain ⟨A', c', hv, -, hc⟩ := hru.use (hsr.sel [] 5)
              obtain ⟨ad, hA', q0, q1, q2, q3⟩ := made_at hlt2 hc
              obtain rfl : Au = some ad := by
                have : A' = Au := by injection hv with h1; exact h1.symm
                rw [← this]; exact hA'
              have HR := Lib.hid (show restM (other.take (i + 1)) = restM (other.take i) ++ if other[i].1 < 2 ∨ 6 < other[i].1 then [] else [other[i]] by rw [List.take_succ_eq_append_getElem hlt2, restM_snoc]; simp only [isIn_iff])
              have hcr2 := count_rest (other.take i)
              rw [List.length_take_of_le hi] at hcr2
              obtain ⟨hK, -⟩ := hinu _ (List.getElem_mem hlt2)
              clear hc hv hA'
              generalize other[i] = s at *
              obtain ⟨K, a, b, d⟩ := s
              simp only at q0 q1 q2 q3 hK HR
              generalize restM (other.take i) = rs at *
              obtain ⟨hK1, hK2⟩ := hK
              by_cases h1 : 1 < K
              · by_cases h2 : K < 7
                · have hsa := hsr.alloc (.cells #[.int .i64 K, .int .i64 a, .int .i64 b, .int .i64 d] 28)
                  have hno : ¬ (K < 2 ∨ 6 < K) := by omega
                  have HNO := Lib.hid hno; clear hno
                  go_wp2_with (first | (at_builtin; go_loud (refine wpList_app rfl _ _ rfl Tryd.underlying22 infoMade rfl (hsa.pull 1) rfl (ys := [(K, a, b, d)]) rfl (hsa.rd_blk (d := cMade) (ys := [(K, a, b, d)]) 1 1 rfl rfl (by decide)) (by simp; omega) (by simp; omega) ?_); intro vo' w7 hs7))
                  go_roundg (other.length - (i + 1))
                  case measure => omega
                  case rel => exact ⟨i + 1, by omega, rfl, by go_num, by rw [HR.out, if_neg HNO.out]; exact hs7.sel [0, 2, 3, 4, 5] 1⟩
                · have hno : K < 2 ∨ 6 < K := by omega
                  have HNO := Lib.hid hno; clear hno
                  go_wp2_with fail
                  go_roundg (other.length - (i + 1))
                  case measure => omega
                  case rel => exact ⟨i + 1, by omega, rfl, by go_num, by rw [HR.out, if_pos HNO.out, List.append_nil]; exact hsr⟩
              · have hno : K < 2 ∨ 6 < K := by omega
                have HNO := Lib.hid hno; clear hno
                go_wp2_with fail
                go_roundg (other.length - (i + 1))
                case measure => omega
                case rel => exact ⟨i + 1, by omega, rfl, by go_num, by rw [HR.out, if_pos HNO.out, List.append_nil]; exact hsr⟩
            · obtain rfl : i = other.length := by omega
              rw [List.take_length] at hsr
              have hfl : (firstM j).length = j := by simp [firstM]
              have hmi : ∀ s ∈ firstM j ++ restM script, MkIn s := fun s hs => (List.mem_append.1 hs).elim (firstM_in j s) (hrm s)
              have hmi2 : ∀ s ∈ firstM j ++ restM other, MkIn s := fun s hs => (List.mem_append.1 hs).elim (firstM_in j s) (fun h => hinu s (restM_sub s h))
              have hse := (hsr.alloc (.cells #[] 28)).arr_lit (d := cMade) (n := 0) (xs := []) rfl rfl (by decide)
              clear hsr
              go_wp2_with (first | (at_builtin; (refine wpList_app rfl _ _ rfl Tryd.underlying22 infoMade rfl hse rfl (ys := firstM j) rfl ((hse.pull 2).rd) (by simp; omega) (by simp; omega) ?_); clear hse; intro v7 w7 hs7) | (at_builtin; (refine wpList_app rfl _ _ rfl Tryd.underlying22 infoMade rfl hs7 rfl (ys := restM script) rfl ((hs7.pull 3).rd) (by simp; omega) (by simp; omega) ?_); clear hs7; intro v8 w8 hs8))
              rw [List.nil_append] at hs8
              go_wp2_with fail
              refine (made2_walk w w8 _ g (hs8.sel [5, 0, 1, 2, 3, 4]) _ (firstM j ++ restM script) (fun _ _ s => SL.St.rd s) hmi (by simp; omega)).mono ?_
              rintro e w9 ⟨va, rfl, hs9⟩
              have hs9 := hs9.sel [0, 1, 3, 4, 5, 6] 1
              have hse := (hs9.alloc (.cells #[] 28)).arr_lit (d := cMade) (n := 0) (xs := []) rfl rfl (by decide)
              clear hs8 hs9
              go_wp2_with (first | (at_builtin; (refine wpList_app rfl _ _ rfl Tryd.underlying22 infoMade rfl hse rfl (ys := firstM j) rfl ((hse.pull 4).rd) (by simp; omega) (by simp; omega) ?_); clear hse; intro v10 w10 hs10) | (at_builtin; (refine wpList_app rfl _ _ rfl Tryd.underlying22 infoMade rfl hs10 rfl (ys := restM other) rfl ((hs10.pull 3).rd) (by simp; omega) (by simp; omega) ?_); clear hs10; intro v11 w11 hs11))
              rw [List.nil_append] at hs11
              go_wp2_with fail
              refine (made2_walk w w11 _ h (hs11.sel [6, 0, 1, 2, 3, 4, 5]) _ (firstM j ++ restM other) (fun _ _ s => SL.St.rd s) hmi2 (by simp; omega)).mono ?_
              rintro e w12 ⟨vb, rfl, hs12⟩
              have hs13 := hs12.sel [0, 1, 3, 4, 7] 3
              clear hs11 hs12 hmi hmi2
              generalize madeM (firstM j ++ restM script) = p at *
              obtain ⟨gA, aA⟩ := p
              generalize madeM (firstM j ++ restM other) = p at *
              obtain ⟨gB, bB⟩ := p
              simp only at hs13 bN4 hz
              obtain ⟨kb, cb, rfl⟩ := hs13.arr_form (by omega)
              have hs14 := hs13.arr_take (1 + j) bN4
              have hbl : ¬ ((bB.length : Int) < 1 + (j : Int)) := by omega
              have hcap : (1 + (j : Int)) ≤ (cb : Int) := by have := hs13.arr_lt.2.1; omega
              clear hs13
              have hS0 : S 0 = (gB, bB.take (1 + j)) := hz
              have e1 : gB = (S 0).1 := by rw [hS0]
              have e2 : bB.take (1 + j) = (S 0).2 := by rw [hS0]
              have hs15 := hs14
              rw [e1, e2] at hs15
              clear e1 e2
              have HZ := Lib.hid (And.intro hz hS0); clear hz hS0 hs14
              generalize restM script = rs at *
              go_wp2_with fail
              go_loopg [18, 20] rs.length (fun k vb i wr => ∃ i' : Nat, i' ≤ rs.length ∧ k = rs.length - i' ∧ i = .int .i64 i' ∧ SL.St w (Arr (cNat .u32) 32 vb (S i').2 :: Graph h (S i').1 :: Arr (cNat .u32) 32 va aA :: Graph g gA :: Arr cMade 28 _ rs :: [Old w]) wr)
              case atStart => exact ⟨0, Nat.zero_le _, rfl, rfl, hs15⟩
              case round =>
                clear hs15
                obtain ⟨i, hi, hgk, rfl, hsr⟩ := hrel
                subst hgk
                obtain ⟨fi, ri, ci1, ci2, ci3, -⟩ := hsat i hi
                have clits : ∀ y ∈ (S i).2, y < 2 * (S i).1.length := fun y hy => by
                  rw [ri.same] at hy
                  obtain ⟨x, hx, rfl⟩ := List.mem_map.1 hy
                  exact ri.emb.litlt (ri.lits x hx)
                have cpos := ri.good2.pos
                clear ri ci1
                by_cases hlt3 : i < rs.length
                · obtain ⟨Ar, cr, hv, -, hc⟩ := (hsr.pull 4).rd
                  obtain ⟨ad, hA', q0, q1, q2, q3⟩ := made_at hlt3 hc
                  subst hA'
                  have HV := Lib.hid hv
                  have HS := Lib.hid (hsucc i hlt3)
                  have hns := hrs _ (List.getElem_mem hlt3)
                  have hms := hrm _ (List.getElem_mem hlt3)
                  clear hc
                  generalize rs[i] = s at *
                  obtain ⟨K, a, b, d⟩ := s
                  simp only at q0 q1 q2 q3
                  have hmk := mkone_walk w wr _ h (S i).1 hsr.swap _ (S i).2 (fun _ _ s => SL.St.rd s) cpos (by omega) (by omega) (by omega) clits (K, a, b, d) hms hns
                  have hmx := mk1_lt (ns := (S i).1) K cpos (pickM_lt (by omega) clits a) (pickM_lt (by omega) clits b) (pickM_lt (by omega) clits d)
                  unfold mkStep at HS
                  simp only at hmk HS
                  generalize S i = q at *
                  obtain ⟨gq, bq⟩ := q
                  simp only at hmk HS ci2 ci3 hmx hsr
                  generalize mk1 gq K (pickM bq a) (pickM bq b) (pickM bq d) = r at *
                  obtain ⟨x, gr⟩ := r
                  simp only at hmk HS hmx
                  subst hv
                  go_wp2_with fail
                  refine hmk.mono ?_
                  rintro e w13 ⟨rfl, hs16⟩
                  clear hmk
                  have hsa := hs16.alloc (.cells #[.int .u32 (x : Nat)] 32)
                  go_wp2_with (first | (at_builtin; (refine wpList_app rfl _ _ rfl Tryd.underlying29 infoU32 rfl (hsa.pull 2) rfl (ys := [x]) rfl (hsa.rd_blk (ys := [x]) 1 1 rfl rfl (by decide)) (by simp; omega) (by simp; omega) ?_); intro vo' w7 hs7))
                  go_roundg (rs.length - (i + 1))
                  case measure => omega
                  case rel => exact ⟨i + 1, by omega, rfl, by go_num, by rw [HS.out]; exact hs7.sel [0, 2, 3, 4, 5] 1⟩
                · obtain rfl : i = rs.length := by omega
                  have hs17 := (hsr.rows_nil (cNat .u32) 32).rows_nil (cNat .u32) 32
                  obtain ⟨Ab, cb2, rfl, -, -⟩ := hsr.rd
                  obtain ⟨Ar, cr, rfl, -, -⟩ := (hsr.pull 4).rd
                  clear hsr hsucc hrs hrm hsat HZ
                  generalize S rs.length = q at *
                  obtain ⟨gN, bN⟩ := q
                  simp only at hs17 clits cpos ci2 ci3 hlaw rN bN1 bN2 bN3
                  obtain ⟨-, gg1, gg2, alits, apos, asame⟩ := rN
                  simp only at gg1 gg2 alits apos asame
                  have hab : aA.length = bN.length := by rw [asame, List.length_map]
                  have hbp : 0 < bN.length := by omega
                  have hbq : bN.length ≤ 100000000 := by omega
                  have haq : aA.length ≤ 100000000 := by omega
                  clear asame hab bN3 ci3
                  have hlA : ∀ i : Int, pickM aA i < 2 * gA.length := fun i => pickM_lt apos alits i
                  have hlB : ∀ i : Int, pickM bN i < 2 * gN.length := fun i => pickM_lt hbp clits i
                  have hab1 : ∀ y ∈ aA, y < 4294967296 := fun y hy => by have := alits y hy; omega
                  have hbb1 : ∀ y ∈ bN, y < 4294967296 := fun y hy => by have := clits y hy; omega
                  go_wp2_with fail
                  go_loopg [23, 24, 25] roots.length (fun k vp vq i wr => ∃ i' : Nat, i' ≤ roots.length ∧ k = roots.length - i' ∧ i = .int .i64 i' ∧ SL.St w (Arr (cNat .u32) 32 vp ((roots.take i').map (pickM aA)) :: Arr (cNat .u32) 32 vq ((roots.take i').map (pickM bN)) :: Arr (cNat .u32) 32 (.slice Ab bN.length cb2) bN :: Graph h gN :: Arr (cNat .u32) 32 va aA :: Graph g gA :: Arr cMade 28 _ rs :: [Old w]) wr)
                  case atStart => exact ⟨0, Nat.zero_le _, rfl, rfl, hs17⟩
                  case round =>
                    clear hs17
                    obtain ⟨i, hi, hgk, rfl, hsr⟩ := hrel
                    subst hgk
                    by_cases hlt4 : i < roots.length
                    · obtain ⟨A', c', hv, -, hc⟩ := hro.use (hsr.sel [] 7)
                      obtain ⟨ad, hA', hcell⟩ := rd_at_int hc i hlt4
                      obtain rfl : Ao = some ad := by
                        have : A' = Ao := by injection hv with h1; exact h1.symm
                        rw [← this]; exact hA'
                      have hob := hino _ (List.getElem_mem hlt4)
                      have HA := Lib.hid (show (roots.take (i + 1)).map (pickM aA) = (roots.take i).map (pickM aA) ++ [pickM aA roots[i]] by rw [List.take_succ_eq_append_getElem hlt4, List.map_append]; rfl)
                      have HB := Lib.hid (show (roots.take (i + 1)).map (pickM bN) = (roots.take i).map (pickM bN) ++ [pickM bN roots[i]] by rw [List.take_succ_eq_append_getElem hlt4, List.map_append]; rfl)
                      have hlenA : ((roots.take i).map (pickM aA)).length = i := by simp; omega
                      have hlenB : ((roots.take i).map (pickM bN)).length = i := by simp; omega
                      clear hc hv hA'
                      have hcellO : ∀ w2, SL.St w [Old w] w2 → w2.cell? (ad.add i) = some (.int .i64 roots[i]) := fun w2 h2 => by
                        obtain ⟨A', c', hv, -, hc⟩ := hro.use h2
                        obtain ⟨ad2, hA', hcell2⟩ := rd_at_int hc i hlt4
                        obtain rfl : ad2 = ad := by
                          have : some ad = A' := by injection hv
                          rw [hA'] at this; exact (Option.some.inj this).symm
                        exact hcell2
                      generalize roots[i] = o at *
                      generalize (roots.take i).map (pickM aA) = P at *
                      generalize (roots.take i).map (pickM bN) = Q at *
                      have hpA := pick_walk wr va aA (hsr.pull 4).rd hab1 apos (by omega) o hob.1 hob.2
                      have hpB := fun (w2 : World) (h2 : Rd (cNat .u32) (.slice Ab bN.length cb2) bN w2) => pick_walk w2 _ bN h2 hbb1 hbp (by omega) o hob.1 hob.2
                      have hxa := hlA o
                      have hxb := hlB o
                      generalize pickM aA o = xa at *
                      generalize pickM bN o = xb at *
                      go_wp2_with fail
                      refine hpA.mono ?_
                      rintro e w' ⟨rfl, rfl⟩
                      clear hpA hcell
                      have hsa := hsr.alloc (.cells #[.int .u32 (xa : Nat)] 32)
                      go_wp2_with (first | (at_builtin; (refine wpList_app rfl _ _ rfl Tryd.underlying29 infoU32 rfl (hsa.pull 1) rfl (ys := [xa]) rfl (hsa.rd_blk (ys := [xa]) 1 1 rfl rfl (by decide)) (by simp; omega) (by simp; omega) ?_); clear hsa; intro vp' w7 hs7; have hcell := hcellO _ (hs7.sel [] 8)))
                      have hs8 := hs7.sel [0, 2, 3, 4, 5, 6, 7] 1
                      refine (hpB w7 (hs8.pull 2).rd).mono ?_
                      rintro e w' ⟨rfl, rfl⟩
                      have hsb := hs8.alloc (.cells #[.int .u32 (xb : Nat)] 32)
                      clear hs7 hcell hpB hcellO
                      go_wp2_with (first | (at_builtin; (refine wpList_app rfl _ _ rfl Tryd.underlying29 infoU32 rfl (hsb.pull 2) rfl (ys := [xb]) rfl (hsb.rd_blk (ys := [xb]) 1 1 rfl rfl (by decide)) (by simp; omega) (by simp; omega) ?_); clear hsb; intro vq' w9 hs9))
                      go_roundg (roots.length - (i + 1))
                      case measure => omega
                      case rel => exact ⟨i + 1, by omega, rfl, by go_num, by rw [HA.out, HB.out]; exact hs9.sel [2, 0, 3, 4, 5, 6, 7] 1⟩
                    · obtain rfl : i = roots.length := by omega
                      rw [List.take_length] at hsr
                      have hPx : ∀ y ∈ roots.map (pickM aA), y < 2 * gA.length := fun y hy => by
                        obtain ⟨i, _, rfl⟩ := List.mem_map.1 hy
                        exact hlA i
                      have hQx : ∀ y ∈ roots.map (pickM bN), y < 2 * gN.length := fun y hy => by
                        obtain ⟨i, _, rfl⟩ := List.mem_map.1 hy
                        exact hlB i
                      have hPl : (roots.map (pickM aA)).length ≤ 2097152 := by simp; omega
                      have hQl : (roots.map (pickM bN)).length ≤ 2097152 := by simp; omega
                      obtain ⟨htx, hcl⟩ := hlaw
                      generalize roots.map (pickM aA) = P at *
                      generalize roots.map (pickM bN) = Q at *
                      go_wp2_with fail
                      refine (print_walk w wr _ g gA (hsr.sel [5, 0, 1, 3] 3) gg1 (by omega) _ P (fun _ _ s => SL.St.rd s) (fun _ _ s => uT.use (SL.St.sel s [] 3)) hPx (by omega)).mono ?_
                      rintro e w20 ⟨rfl, hs20⟩
                      go_wp2_with fail
                      refine (print_walk w w20 _ h gN (hs20.sel [3, 2, 0, 1]) gg2 (by omega) _ Q (fun _ _ s => SL.St.rd s) (fun _ _ s => uT.use (SL.St.sel s [] 3)) hQx (by omega)).mono ?_
                      rintro e w21 ⟨rfl, hs21⟩
                      go_wp2_with fail
                      refine (Cone_walk w w21 _ g gA (hs21.sel [2, 3, 0, 1]) gg1.wf (by omega) _ P (fun _ _ s => SL.St.rd s) hPx).mono ?_
                      rintro e w22 ⟨vc, rfl, hs22⟩
                      go_wp2_with fail
                      refine (Cone_walk w w22 _ h gN (hs22.sel [3, 4, 0, 1, 2]) gg2.wf (by omega) _ Q (fun _ _ s => SL.St.rd s) hQx).mono ?_
                      rintro e w23 ⟨vd, rfl, hs23⟩
                      obtain ⟨Ac, cc, rfl, -, -⟩ := (hs23.pull 3).rd
                      obtain ⟨Ad, cd, rfl, -, -⟩ := hs23.rd
                      go_wp2_with (first | (go_at_call 16; refine (no_walk _ 0 (by decide) (by decide)).mono ?_; rintro e w' ⟨rfl, rfl⟩))
                      go_ret
                      exact ⟨rfl, hs23.sel [] 6⟩
end Go.Proofs.YtjllogellpfpkaaDoor
