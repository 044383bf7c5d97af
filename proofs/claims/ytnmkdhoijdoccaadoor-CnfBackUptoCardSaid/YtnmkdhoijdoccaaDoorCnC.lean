/- The program's count and Count. -/
import Derived.Test.YtnmkdhoijdoccaaDoorCnB
import Derived.Test.YtnmkdhoijdoccaaDoorCnK
import Derived.Test.YtnmkdhoijdoccaaDoorCnI
set_option linter.unusedVariables false
set_option linter.unusedSimpArgs false
namespace Go.Proofs.YtnmkdhoijdoccaaDoor
open Go Go.RowKit SL

theorem valM_full {c m : List Int} (hc : ∀ x ∈ c, litOk x = true ∧ varM x ≤ m.length) (hm : ∀ y ∈ m, y = 1 ∨ y = -1) : valM c m = 1 ∨ valM c m = -1 := by
  have h0 : ∀ x ∈ c, ofM m x ≠ 0 := fun x hx h => by
    obtain ⟨h1, h2⟩ := hc x hx
    have hl := litOk_iff.1 h1
    have hv : 1 ≤ varM x := by unfold varM; split <;> omega
    unfold ofM at h
    rw [if_pos ⟨h1, h2⟩] at h
    have hi : (varM x).toNat - 1 < m.length := by omega
    have hg : m.getD ((varM x).toNat - 1) 0 = m[(varM x).toNat - 1] := by simp [List.getD_eq_getElem?_getD, hi]
    rw [hg] at h
    have hy := hm _ (List.getElem_mem hi)
    generalize m[(varM x).toNat - 1] = y at *
    simp only [if_pos hy] at h
    split at h <;> omega
  rcases valM_vals c m with h | h | h
  · exfalso
    unfold valM at h
    split at h
    · cases h
    · split at h
      · rename_i h1
        obtain ⟨x, hx, h2⟩ := List.any_eq_true.1 h1
        exact h0 x hx (by simpa using h2)
      · cases h
  · exact .inl h
  · exact .inr h
theorem goodM_take_succ (cls : List (List Int)) (m : List Int) (j : Nat) (h : j < cls.length) : goodM (cls.take (j + 1)) m = (goodM (cls.take j) m && valM cls[j] m == 1) := by
  unfold goodM
  rw [List.take_succ_eq_append_getElem h, List.all_append]
  simp

theorem wrap_pow {m : Nat} (h : m ≤ 20) : IntKind.u64.wrap (2 ^ m) = ((2 ^ m : Nat) : Int) := by
  have h1 : (2 : Nat) ^ m ≤ 2 ^ 20 := Nat.pow_le_pow_right (by decide) h
  have h2 : (2 : Int) ^ m = ((2 ^ m : Nat) : Int) := by simp
  rw [h2]
  generalize (2 : Nat) ^ m = p at *
  simp [IntKind.wrap, IntKind.bits, IntKind.signed]
  omega
theorem take_of_take_succ {M pre : List Int} {a : Nat} {y : Int} (hp : pre.length = a) (h : M.take (a + 1) = pre ++ [y]) : M.take a = pre := by
  have h2 : (M.take (a + 1)).take a = (pre ++ [y]).take a := congrArg _ h
  rw [List.take_take, Nat.min_eq_left (Nat.le_succ a)] at h2
  rw [h2, List.take_append_of_le_length (by omega), List.take_of_length_le (by omega)]

set_option maxRecDepth 100000 in
set_option maxHeartbeats 8000000 in
theorem count_walk (w0 : World) (l : List HP) (vl : Value) (cls : List (List Int)) (hr : Ent l (Rd2 (cInt .i64) vl cls)) (hI : ∀ c ∈ cls, ∀ x ∈ c, I64 x) (n : Nat) (hn : n ≤ 20) (hv : ∀ c ∈ cls, ∀ x ∈ c, litOk x = true ∧ varM x ≤ n) (g cm : Nat) (hcm : n ≤ cm) :
    ∀ (k : Nat) (M : List Int) (a : Nat) (w : World), SL.St w0 (Arr (cInt .i8) 39 (.slice (some ⟨g, 0, none⟩) n cm) M :: l) w → M.length = n → a + k = n → (∀ y ∈ M.take a, y = 1 ∨ y = -1) → (∀ y ∈ M, -128 ≤ y ∧ y ≤ 127) →
    Calls Tryd.prog 59 #[vl, .slice (some ⟨g, 0, none⟩) n cm, .int .i64 a] w fun e w' => e = .returned (.int .u64 (countP cls k (M.take a) : Nat)) ∧
      ∃ M', M'.length = n ∧ M'.take a = M.take a ∧ (∀ y ∈ M', -128 ≤ y ∧ y ≤ 127) ∧ SL.St w0 (Arr (cInt .i8) 39 (.slice (some ⟨g, 0, none⟩) n cm) M' :: l) w' := by
  intro k
  induction k with
  | zero =>
    intro M a w h hM hak hpre hMb
    obtain ⟨A, c, rfl, hml, hcc⟩ := (hr.use h.drop).at
    unfold maxLen at hml
    have hrm := Rd.take h.rd a (by omega)
    have hC : countP cls 0 (M.take a) = if cls.any (fun c => valM c (M.take a) == -1) = true then 0 else if goodM cls (M.take a) = true then 1 else 0 := rfl
    have HPB := Lib.hid (show ∀ y ∈ M.take a, -128 ≤ y ∧ y ≤ 127 from fun y hy => hMb y (List.mem_of_mem_take hy))
    generalize countP cls 0 (M.take a) = C at *
    have HC := Lib.hid hC; clear hC
    have HM := Lib.hid hM; have HMB := Lib.hid hMb; have HPRE := Lib.hid hpre; have HAK := Lib.hid hak
    have HA1 := Lib.hid (show a = n by omega)
    have ha1 : a ≤ n := by omega
    have ha2 : a ≤ cm := by omega
    clear hM hMb hpre hak
    have HCC := Lib.hid hcc; clear hcc
    have H := Lib.hid h; clear h
    generalize hP : M.take a = pre at *
    have HP := Lib.hid hP; clear hP
    go_enter Tryd.func59, Tryd.ntmps59
    go_wp2_with fail
    go_loop [7, 15] (fun o i => ∃ j : Nat, j ≤ cls.length ∧ i = .int .i64 j ∧ o = .bool (goodM (cls.take j) pre) ∧ (cls.take j).any (fun c => valM c pre == -1) = false) (fun _ i => cls.length - (intOf i).toNat)
    case atStart => exact ⟨0, Nat.zero_le _, rfl, rfl, rfl⟩
    case round =>
      obtain ⟨j, hj, rfl, rfl, hno⟩ := hrel
      have HNO := Lib.hid hno; clear hno
      by_cases hlt : j < cls.length
      · obtain ⟨ad, Bc, nc, cc, hA', hcell, hrc⟩ := HCC.out j _ (List.getElem?_eq_getElem hlt)
        subst hA'
        have HG := Lib.hid (goodM_take_succ cls pre j hlt)
        have HT := Lib.hid (show cls.take (j + 1) = cls.take j ++ [cls[j]] by rw [List.take_succ_eq_append_getElem hlt])
        have hmem : cls[j] ∈ cls := List.getElem_mem hlt
        have vw := value_walk w (.slice Bc nc cc) _ cls[j] pre hrc (hI _ hmem) hrm HPB.out
        have hvv := valM_vals cls[j] pre
        clear hrc
        generalize cls[j] = x at *
        generalize goodM (cls.take j) pre = gd at *
        have HV := Lib.hid (show ∀ y, valM x pre = y → valM x pre = y from fun _ h => h)
        generalize hV : valM x pre = V at *
        clear HV
        have HV := Lib.hid hV; clear hV
        rcases hvv with rfl | rfl | rfl
        · go_wp2_with (go_at_call 37; refine vw.mono ?_; rintro e w' ⟨rfl, rfl⟩)
          go_round
          case rel => exact ⟨j + 1, by omega, by go_num, by rw [HG.out]; simp [HV.out], by rw [HT.out, List.any_append, HNO.out]; simp [HV.out]⟩
          case measure => simp [intOf]; omega
        · go_wp2_with (go_at_call 37; refine vw.mono ?_; rintro e w' ⟨rfl, rfl⟩)
          go_round
          case rel => exact ⟨j + 1, by omega, by go_num, by rw [HG.out]; simp [HV.out], by rw [HT.out, List.any_append, HNO.out]; simp [HV.out]⟩
          case measure => simp [intOf]; omega
        · have HC2 := Lib.hid (HC.out.trans (if_pos (List.any_eq_true.2 ⟨x, hmem, by simp [HV.out]⟩)))
          go_wp2_with (go_at_call 37; refine vw.mono ?_; rintro e w' ⟨rfl, rfl⟩)
          go_ret
          exact ⟨by rw [HC2.out]; rfl, M, HM.out, HP.out, HMB.out, H.out⟩
      · obtain rfl : j = cls.length := by omega
        have HNO2 := Lib.hid (show ¬ cls.any (fun c => valM c pre == -1) = true by have := HNO.out; rw [List.take_length] at this; rw [this]; decide)
        have HC2 := Lib.hid (HC.out.trans (if_neg HNO2.out))
        rw [List.take_length]
        clear HNO HC
        cases hg : goodM cls pre with
        | true =>
          have HC3 := Lib.hid (HC2.out.trans (if_pos hg))
          clear hg
          go_wp2_with fail
          go_ret
          refine ⟨?_, M, HM.out, HP.out, HMB.out, H.out⟩
          rw [HC3.out]
          have e := wrap_pow (m := n - a) (by omega)
          have e2 : (2 : Nat) ^ (n - a) = 1 := by rw [show n - a = 0 by have := HA1.out; omega]
          rw [e2] at e
          exact congrArg (fun x => Ending.returned (Value.int .u64 x)) e
        | false =>
          exfalso
          have hall : goodM cls pre = true := by
            unfold goodM
            rw [List.all_eq_true]
            intro c hc
            have hpl : pre.length = n := by rw [← HP.out, List.length_take, HM.out]; have := HA1.out; omega
            rcases valM_full (c := c) (m := pre) (fun x hx => by rw [hpl]; exact hv c hc x hx) HPRE.out with h1 | h1
            · simp [h1]
            · exact absurd (List.any_eq_true.2 ⟨c, hc, by simp [h1]⟩) HNO2.out
          rw [hall] at hg; cases hg
  | succ k ih =>
    intro M a w h hM hak hpre hMb
    obtain ⟨A, c, rfl, hml, hcc⟩ := (hr.use h.drop).at
    unfold maxLen at hml
    have hrm := Rd.take h.rd a (by omega)
    have hC : countP cls (k + 1) (M.take a) = if cls.any (fun c => valM c (M.take a) == -1) = true then 0 else if goodM cls (M.take a) = true then 2 ^ (k + 1) else countP cls k (M.take a ++ [1]) + countP cls k (M.take a ++ [-1]) := rfl
    have HPB := Lib.hid (show ∀ y ∈ M.take a, -128 ≤ y ∧ y ≤ 127 from fun y hy => hMb y (List.mem_of_mem_take hy))
    generalize countP cls (k + 1) (M.take a) = C at *
    have HC := Lib.hid hC; clear hC
    have HM := Lib.hid hM; have HMB := Lib.hid hMb; have HPRE := Lib.hid hpre; have HAK := Lib.hid hak
    have ha1 : a < n := by omega
    have ha2 : a ≤ cm := by omega
    clear hM hMb hpre hak
    have HCC := Lib.hid hcc; clear hcc
    have H := Lib.hid h; clear h
    generalize hP : M.take a = pre at *
    have HP := Lib.hid hP; clear hP
    go_enter Tryd.func59, Tryd.ntmps59
    go_wp2_with fail
    go_loop [7, 15] (fun o i => ∃ j : Nat, j ≤ cls.length ∧ i = .int .i64 j ∧ o = .bool (goodM (cls.take j) pre) ∧ (cls.take j).any (fun c => valM c pre == -1) = false) (fun _ i => cls.length - (intOf i).toNat)
    case atStart => exact ⟨0, Nat.zero_le _, rfl, rfl, rfl⟩
    case round =>
      obtain ⟨j, hj, rfl, rfl, hno⟩ := hrel
      have HNO := Lib.hid hno; clear hno
      by_cases hlt : j < cls.length
      · obtain ⟨ad, Bc, nc, cc, hA', hcell, hrc⟩ := HCC.out j _ (List.getElem?_eq_getElem hlt)
        subst hA'
        have HG := Lib.hid (goodM_take_succ cls pre j hlt)
        have HT := Lib.hid (show cls.take (j + 1) = cls.take j ++ [cls[j]] by rw [List.take_succ_eq_append_getElem hlt])
        have hmem : cls[j] ∈ cls := List.getElem_mem hlt
        have vw := value_walk w (.slice Bc nc cc) _ cls[j] pre hrc (hI _ hmem) hrm HPB.out
        have hvv := valM_vals cls[j] pre
        clear hrc
        generalize cls[j] = x at *
        generalize goodM (cls.take j) pre = gd at *
        have HV := Lib.hid (show ∀ y, valM x pre = y → valM x pre = y from fun _ h => h)
        generalize hV : valM x pre = V at *
        clear HV
        have HV := Lib.hid hV; clear hV
        rcases hvv with rfl | rfl | rfl
        · go_wp2_with (go_at_call 37; refine vw.mono ?_; rintro e w' ⟨rfl, rfl⟩)
          go_round
          case rel => exact ⟨j + 1, by omega, by go_num, by rw [HG.out]; simp [HV.out], by rw [HT.out, List.any_append, HNO.out]; simp [HV.out]⟩
          case measure => simp [intOf]; omega
        · go_wp2_with (go_at_call 37; refine vw.mono ?_; rintro e w' ⟨rfl, rfl⟩)
          go_round
          case rel => exact ⟨j + 1, by omega, by go_num, by rw [HG.out]; simp [HV.out], by rw [HT.out, List.any_append, HNO.out]; simp [HV.out]⟩
          case measure => simp [intOf]; omega
        · have HC2 := Lib.hid (HC.out.trans (if_pos (List.any_eq_true.2 ⟨x, hmem, by simp [HV.out]⟩)))
          go_wp2_with (go_at_call 37; refine vw.mono ?_; rintro e w' ⟨rfl, rfl⟩)
          go_ret
          exact ⟨by rw [HC2.out]; rfl, M, HM.out, HP.out, HMB.out, H.out⟩
      · obtain rfl : j = cls.length := by omega
        have HNO2 := Lib.hid (show ¬ cls.any (fun c => valM c pre == -1) = true by have := HNO.out; rw [List.take_length] at this; rw [this]; decide)
        have HC2 := Lib.hid (HC.out.trans (if_neg HNO2.out))
        rw [List.take_length]
        clear HNO HC
        cases hg : goodM cls pre with
        | true =>
          have HC3 := Lib.hid (HC2.out.trans (if_pos hg))
          clear hg
          go_wp2_with fail
          go_ret
          refine ⟨?_, M, HM.out, HP.out, HMB.out, H.out⟩
          rw [HC3.out, show k + 1 = n - a by have := HAK.out; omega]
          have := HAK.out
          exact congrArg (fun x => Ending.returned (Value.int .u64 x)) (wrap_pow (by omega))
        | false =>
          have HC3 := Lib.hid (HC2.out.trans (if_neg (by rw [hg]; decide)))
          clear hg
          have hb1 : countP cls k (pre ++ [1]) ≤ 1048576 := Nat.le_trans (countP_le _ _ _) (Nat.le_trans (Nat.pow_le_pow_right (by decide) (by have := HAK.out; omega : k ≤ 20)) (by decide : 2 ^ 20 ≤ 1048576))
          have hb2 : countP cls k (pre ++ [-1]) ≤ 1048576 := Nat.le_trans (countP_le _ _ _) (Nat.le_trans (Nat.pow_le_pow_right (by decide) (by have := HAK.out; omega : k ≤ 20)) (by decide : 2 ^ 20 ≤ 1048576))
          have HPL := Lib.hid (show pre.length = a by rw [← HP.out, List.length_take, HM.out]; omega)
          have IH := fun (M2 : List Int) (w2 : World) (y : Int) (hy : y = 1 ∨ y = -1) (hs : SL.St w0 (Arr (cInt .i8) 39 (.slice (some ⟨g, 0, none⟩) n cm) M2 :: l) w2) (h1 : M2.length = n) (h2 : M2.take (a + 1) = pre ++ [y]) (h3 : ∀ z ∈ M2, -128 ≤ z ∧ z ≤ 127) =>
            ih M2 (a + 1) w2 hs h1 (by have := HAK.out; omega) (fun z hz => by
              rw [h2] at hz
              rcases List.mem_append.1 hz with hz | hz
              · exact HPRE.out z hz
              · simp at hz; subst hz; exact hy) h3
          have HIH := Lib.hid IH
          clear IH ih
          generalize hC1 : countP cls k (pre ++ [1]) = C1 at *
          generalize hC2 : countP cls k (pre ++ [-1]) = C2 at *
          have HC1 := Lib.hid hC1; have HC2' := Lib.hid hC2; clear hC1 hC2
          go_wp2_with fail
          have i0 : ∀ w, (Instr.index 120 (.agg #[.int .i8 1, .int .i8 (-1)]) (.int .i64 0)).run Tryd.prog w = .ok (.int .i8 1) w := fun _ => by kernel_rfl
          have i1 : ∀ w, (Instr.index 120 (.agg #[.int .i8 1, .int .i8 (-1)]) (.int .i64 1)).run Tryd.prog w = .ok (.int .i8 (-1)) w := fun _ => by kernel_rfl
          go_loopg [10, 36] 2 (fun k' o i wr => ∃ (j acc : Nat) (M2 : List Int), j ≤ 2 ∧ k' = 2 - j ∧ i = .int .i64 j ∧ o = .int .u64 acc ∧ acc = (if j = 0 then 0 else if j = 1 then C1 else C1 + C2) ∧ M2.length = n ∧ M2.take a = pre ∧ (∀ z ∈ M2, -128 ≤ z ∧ z ≤ 127) ∧ SL.St w0 (Arr (cInt .i8) 39 (.slice (some ⟨g, 0, none⟩) n cm) M2 :: l) wr)
          case atStart => exact ⟨0, 0, M, by omega, rfl, rfl, rfl, rfl, HM.out, HP.out, HMB.out, H.out⟩
          case round =>
            obtain ⟨j, acc, M2, hj, hgk, rfl, rfl, hacc, hl2, ht2, hb2', hs2⟩ := hrel
            subst hgk
            have HL2 := Lib.hid hl2; have HT2 := Lib.hid ht2; have HB2 := Lib.hid hb2'
            clear hl2 ht2 hb2'
            obtain ⟨c0, f0⟩ := hs2.arr_cell1 rfl a _ (List.getElem?_eq_getElem (by rw [HL2.out]; exact ha1)) _ rfl
            have tk : ∀ y, (M2.set a y).take (a + 1) = pre ++ [y] := fun y => by
              rw [List.take_succ_eq_append_getElem (by rw [List.length_set, HL2.out]; exact ha1), List.take_set_of_le (Nat.le_refl _), List.getElem_set_self, HT2.out]
            have bd : ∀ y, y = 1 ∨ y = -1 → ∀ z ∈ M2.set a y, -128 ≤ z ∧ z ≤ 127 := fun y hy z hz => by
              rcases List.mem_or_eq_of_mem_set hz with hz | hz
              · exact HB2.out z hz
              · subst hz; rcases hy with rfl | rfl <;> omega
            have TK := Lib.hid tk; have BD := Lib.hid bd; clear tk bd
            by_cases j0 : j = 0
            · subst j0
              rw [if_pos rfl] at hacc
              subst hacc
              have hset := hs2.arr_set1 rfl a (by rw [HL2.out]; exact ha1) 1 _ rfl
              have IW := HIH.out _ _ 1 (.inl rfl) hset (by rw [List.length_set]; exact HL2.out) (TK.out 1) (BD.out 1 (.inl rfl))
              rw [TK.out, HC1.out] at IW
              go_wp2_with fail
              refine IW.mono ?_
              rintro e w3 ⟨rfl, M3, q1, q2, q3, q4⟩
              have Q := Lib.hid (And.intro q1 (And.intro (take_of_take_succ HPL.out q2) q3)); clear q1 q2 q3 IW hset
              go_wp2_with fail
              go_roundg 1
              case measure => omega
              case rel => exact ⟨1, C1, M3, by omega, rfl, rfl, by go_num, rfl, Q.out.1, Q.out.2.1, Q.out.2.2, q4⟩
            by_cases j1 : j = 1
            · subst j1
              rw [if_neg (by decide), if_pos rfl] at hacc
              subst hacc
              have hset := hs2.arr_set1 rfl a (by rw [HL2.out]; exact ha1) (-1) _ rfl
              have IW := HIH.out _ _ (-1) (.inr rfl) hset (by rw [List.length_set]; exact HL2.out) (TK.out (-1)) (BD.out (-1) (.inr rfl))
              rw [TK.out, HC2'.out] at IW
              go_wp2_with fail
              refine IW.mono ?_
              rintro e w3 ⟨rfl, M3, q1, q2, q3, q4⟩
              have Q := Lib.hid (And.intro q1 (And.intro (take_of_take_succ HPL.out q2) q3)); clear q1 q2 q3 IW hset
              go_wp2_with fail
              go_roundg 0
              case measure => omega
              case rel => exact ⟨2, acc + C2, M3, by omega, rfl, rfl, by go_num, rfl, Q.out.1, Q.out.2.1, Q.out.2.2, q4⟩
            · obtain rfl : j = 2 := by omega
              rw [if_neg (by decide), if_neg (by decide)] at hacc
              have HACC := Lib.hid hacc; clear hacc
              go_wp2_with fail
              go_ret
              exact ⟨by rw [HC3.out, ← HACC.out]; rfl, M2, HL2.out, HT2.out, HB2.out, hs2⟩
end Go.Proofs.YtnmkdhoijdoccaaDoor
