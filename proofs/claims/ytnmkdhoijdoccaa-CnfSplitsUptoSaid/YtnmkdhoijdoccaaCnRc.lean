/- The reference's Count. -/
import Derived.Test.YtnmkdhoijdoccaaCnCt
import Derived.Lib.RabinKarpLaws
set_option linter.unusedVariables false
set_option linter.unusedSimpArgs false
namespace Go.Proofs.Ytnmkdhoijdoccaa
open Go Go.RowKit SL

theorem underFrom_one (m : List Int) : ∀ (cls : List (List Int)) (i : Nat) (o : Int), o < 0 → ((underFrom m i o cls).1 = 1 ↔ goodM cls m = true)
  | [], i, o, ho => by
    unfold underFrom
    rw [if_neg (by omega)]
    simp [goodM]
  | c :: cs, i, o, ho => by
    have hg : goodM (c :: cs) m = (valM c m == 1 && goodM cs m) := by simp [goodM]
    unfold underFrom
    rcases valM_vals c m with h | h | h
    · rw [if_neg (by rw [h]; decide), hg, h]
      have key : ∀ (cs : List (List Int)) (i : Nat) (o : Int), 0 ≤ o → (underFrom m i o cs).1 ≠ 1 := by
        intro cs
        induction cs with
        | nil => intro i o ho; unfold underFrom; rw [if_pos ho]; simp
        | cons d ds ih =>
          intro i o ho
          unfold underFrom
          split
          · simp
          · exact ih _ _ (by split <;> omega)
      constructor
      · intro h1; exact absurd h1 (key cs _ _ (by rw [if_pos ⟨rfl, ho⟩]; omega))
      · intro h1; simp at h1
    · rw [if_neg (by rw [h]; decide), hg, h, if_neg (fun h1 => absurd h1.1 (by decide))]
      have := underFrom_one m cs (i + 1) o ho
      simpa using this
    · rw [if_pos h, hg, h]
      constructor
      · intro h1; cases h1
      · intro h1; simp at h1
theorem underM_one {vars : Int} {cls : List (List Int)} (h : (checkM vars cls).2 = 0) (m : List Int) : ((underM vars cls m).1 = 1 ↔ goodM cls m = true) := by
  unfold underM
  rw [if_neg (by rw [h]; simp)]
  exact underFrom_one m cls 0 (-1) (by decide)
theorem wrap64_pow {m : Nat} (h : m ≤ 20) : wrap64 (2 ^ m) = ((2 ^ m : Nat) : Int) := by
  have h1 : (2 : Nat) ^ m ≤ 2 ^ 20 := Nat.pow_le_pow_right (by decide) h
  have h2 : (2 : Int) ^ m = ((2 ^ m : Nat) : Int) := by simp
  rw [h2]
  generalize (2 : Nat) ^ m = p at *
  unfold wrap64
  omega
theorem bit_int (x t : Nat) (h : x ≤ 1048576) : bits BinOp.and IntKind.i64 ((x : Int) / 2 ^ t) 1 = ((x / 2 ^ t % 2 : Nat) : Int) := by
  have h2 : (2 : Int) ^ t = ((2 ^ t : Nat) : Int) := by simp
  have h3 : x / 2 ^ t ≤ x := Nat.div_le_self _ _
  rw [h2, show (x : Int) / ((2 ^ t : Nat) : Int) = ((x / 2 ^ t : Nat) : Int) from (Int.natCast_ediv x (2 ^ t)).symm]
  exact and_one _ (by omega)
theorem bitsM_len (n x : Nat) : (bitsM n x).length = n := by simp [bitsM]
theorem bitsM_take (n x t : Nat) (h : t < n) : (bitsM n x).take (t + 1) = (bitsM n x).take t ++ [if x / 2 ^ t % 2 = 1 then 1 else -1] := by
  rw [List.take_succ_eq_append_getElem (by rw [bitsM_len]; exact h)]
  congr 1
  simp [bitsM, Nat.testBit_eq_decide_div_mod_eq]
theorem set_take_succ {M : List Int} {t : Nat} (y : Int) (h : t < M.length) : (M.set t y).take (t + 1) = M.take t ++ [y] := by
  rw [List.take_succ_eq_append_getElem (by rw [List.length_set]; exact h), List.take_set_of_le (Nat.le_refl _), List.getElem_set_self]

set_option maxRecDepth 100000 in
set_option maxHeartbeats 8000000 in
theorem rCount_walk (w0 w : World) (l : List HP) (h : SL.St w0 l w) (vars : Int) (hv : I64 vars) (vf : Value) (cls : List (List Int)) (hr : Ent l (Rd2 (cInt .i64) vf cls)) (hI : ∀ c ∈ cls, ∀ x ∈ c, I64 x) :
    Calls Try.prog 27 #[.agg #[.int .i64 vars, vf]] w fun e w' => e = .returned (.tuple #[.int .u64 ((countM vars cls).1 : Nat), .int .i64 (countM vars cls).2]) ∧ SL.St w0 l w' := by
  have h1 := h.alloc (.cells #[.int .i64 vars, vf] 37)
  obtain ⟨A, c, rfl, hm, -⟩ := (hr.use h).at
  unfold maxLen at hm
  have cw := rcheck_walk w0 _ _ h1 vars hv (.slice A cls.length c) cls (Ent.tail hr) hI
  have hcv := checkM_vals vars cls
  have hcok := @checkM_ok vars cls
  have hun := @underM_one vars cls
  have hU : countM vars cls = if (checkM vars cls).2 ≠ 0 then (0, (checkM vars cls).2) else if 20 < vars then (0, 21) else (countP cls vars.toNat [], 0) := rfl
  generalize countM vars cls = U at *
  generalize checkM vars cls = C at *
  obtain ⟨place, er⟩ := C
  simp only at cw hcv hU hcok hun
  have HU := Lib.hid hU; clear hU
  obtain ⟨hc1, hc2⟩ := hcv
  have HR := Lib.hid hr
  clear hr
  go_enter Try.func27, Try.ntmps27
  go_wp2_with fail
  refine cw.mono ?_
  rintro e w1 ⟨rfl, h2⟩
  generalize w.heap.size = B at *
  clear cw h h1
  by_cases e0 : er = 0
  · subst e0
    obtain ⟨v1, v2, v3, -⟩ := hcok rfl
    have HUN := Lib.hid (hun rfl)
    have HU2 := Lib.hid (HU.out.trans (if_neg (by simp))); clear HU
    have g0 : w1.cell? ⟨B, 0, none⟩ = some (.int .i64 vars) := h2.cell 0
    clear hcok hun
    by_cases hv20 : 20 < vars
    · have d : decide (20 < vars) = true := decide_eq_true hv20
      have HU3 := Lib.hid (HU2.out.trans (if_pos hv20)); clear HU2 hv20
      go_wp2_with fail
      go_ret2
      exact ⟨by rw [HU3.out]; rfl, h2.drop⟩
    · have d : decide (20 < vars) = false := decide_eq_false hv20
      have HU3 := Lib.hid (HU2.out.trans (if_neg hv20)); clear HU2
      obtain ⟨n, rfl⟩ : ∃ n : Nat, vars = n := ⟨vars.toNat, by omega⟩
      have hn : n ≤ 20 := by omega
      have HK := Lib.hid (show U = ((List.range (2 ^ n)).countP fun x => goodM cls (bitsM n x), 0) by rw [HU3.out, Int.toNat_natCast, count_models])
      clear hv20 HU3
      have hA := (h2.alloc (.cells (madeCells #[Value.int .i8 0] n) 51)).arr_made (d := cInt .i8) rfl (x := 0) rfl (by unfold maxLen; omega)
      have hmk := run_make_row' (P := Try.prog) 50 51 (.int .i8 0) 1 Try.underlying50 infoI8 rfl .i64 .i64 n (by omega) (by omega)
      go_wp2_with fail
      clear hmk g0
      generalize w1.heap.size = g at *
      go_loopg [7, 8] (2 ^ n) (fun k o i wr => ∃ (x : Nat) (M : List Int), x ≤ 2 ^ n ∧ k = 2 ^ n - x ∧ i = .int .i64 x ∧ o = .int .u64 ((List.range x).countP fun x => goodM cls (bitsM n x) : Nat) ∧ M.length = n ∧ (∀ y ∈ M, -128 ≤ y ∧ y ≤ 127) ∧ SL.St w0 (Arr (cInt .i8) 51 (.slice (some ⟨g, 0, none⟩) n n) M :: Blk B (.cells #[.int .i64 (n : Nat), .slice A cls.length c] 37 (0, 0)) :: l) wr)
      case atStart => exact ⟨0, List.replicate n 0, Nat.zero_le _, rfl, rfl, rfl, by simp, fun y hy => by simp at hy; obtain ⟨-, rfl⟩ := hy; omega, by simpa using hA⟩
      case round =>
        clear hA h2
        obtain ⟨x, M, hx, hgk, rfl, rfl, hl, hb, hsr⟩ := hrel
        subst hgk
        have g0 : World.cell? _ ⟨B, 0, none⟩ = some (.int .i64 (n : Nat)) := (hsr.pull 1).cell 0
        have HL := Lib.hid hl; have HBD := Lib.hid hb; clear hl hb
        have pw : wrap64 (2 ^ n) = ((2 ^ n : Nat) : Int) := wrap64_pow hn
        by_cases hlt : x < 2 ^ n
        · have dlt : decide ((x : Int) < wrap64 (2 ^ n)) = true := decide_eq_true (by rw [pw]; omega)
          clear pw
          have hx20 : x ≤ 1048576 := by
            have h2 : (2 : Nat) ^ n ≤ 2 ^ 20 := Nat.pow_le_pow_right (by decide) hn
            omega
          go_wp2_with fail
          go_loopg [9] n (fun k i wr => ∃ (t : Nat) (M : List Int), t ≤ n ∧ k = n - t ∧ i = .int .i64 t ∧ M.length = n ∧ M.take t = (bitsM n x).take t ∧ (∀ y ∈ M, -128 ≤ y ∧ y ≤ 127) ∧ SL.St w0 (Arr (cInt .i8) 51 (.slice (some ⟨g, 0, none⟩) n n) M :: Blk B (.cells #[.int .i64 (n : Nat), .slice A cls.length c] 37 (0, 0)) :: l) wr)
          case atStart => exact ⟨0, M, Nat.zero_le _, rfl, rfl, HL.out, rfl, HBD.out, hsr⟩
          case round =>
            clear hsr HL HBD g0
            obtain ⟨t, M, ht, hgk, rfl, hl, htk, hb, hsr⟩ := hrel
            subst hgk
            have g0 : World.cell? _ ⟨B, 0, none⟩ = some (.int .i64 (n : Nat)) := (hsr.pull 1).cell 0
            have HL := Lib.hid hl; have HBD := Lib.hid hb; have HTK := Lib.hid htk; clear hl hb htk
            by_cases hlt2 : t < n
            · obtain ⟨c0, f0⟩ := hsr.arr_cell1 rfl t _ (List.getElem?_eq_getElem (by rw [HL.out]; exact hlt2)) _ rfl
              have hs1 := hsr.arr_set1 rfl t (by rw [HL.out]; exact hlt2) (-1) _ rfl
              have BT := Lib.hid (bitsM_take n x t hlt2)
              have hbi := bit_int x t hx20
              have bd : ∀ y, y = 1 ∨ y = -1 → ∀ z ∈ M.set t y, -128 ≤ z ∧ z ≤ 127 := fun y hy z hz => by
                rcases List.mem_or_eq_of_mem_set hz with hz | hz
                · exact HBD.out z hz
                · subst hz; rcases hy with rfl | rfl <;> omega
              have BD := Lib.hid bd; clear bd
              by_cases hbit : x / 2 ^ t % 2 = 1
              · have db : (bits BinOp.and IntKind.i64 ((x : Int) / 2 ^ t) 1 == 1) = true := by rw [hbi, hbit]; rfl
                have HB1 := Lib.hid hbit
                have hs2 := hs1.arr_set1 rfl t (by rw [List.length_set, HL.out]; exact hlt2) 1 _ rfl
                rw [List.set_set] at hs2
                clear hbit hbi
                go_wp2_with fail
                go_roundg (n - (t + 1))
                case measure => omega
                case rel => exact ⟨t + 1, M.set t 1, by omega, rfl, by go_num, by rw [List.length_set]; exact HL.out, by rw [BT.out, if_pos HB1.out, set_take_succ 1 (by rw [HL.out]; exact hlt2), HTK.out], BD.out 1 (.inl rfl), hs2⟩
              · have db : (bits BinOp.and IntKind.i64 ((x : Int) / 2 ^ t) 1 == 1) = false := by rw [hbi]; exact beq_eq_false_iff_ne.2 (fun e => hbit (Int.ofNat_inj.1 e))
                have HB1 := Lib.hid hbit
                clear hbit hbi
                go_wp2_with fail
                go_roundg (n - (t + 1))
                case measure => omega
                case rel => exact ⟨t + 1, M.set t (-1), by omega, rfl, by go_num, by rw [List.length_set]; exact HL.out, by rw [BT.out, if_neg HB1.out, set_take_succ (-1) (by rw [HL.out]; exact hlt2), HTK.out], BD.out (-1) (.inr rfl), hs1⟩
            · obtain rfl : t = n := by omega
              have HM := Lib.hid (show M = bitsM t x by have := HTK.out; rwa [List.take_of_length_le (by rw [HL.out]; exact Nat.le_refl _), List.take_of_length_le (by rw [bitsM_len]; exact Nat.le_refl _)] at this)
              have UW := runder_walk w0 _ _ hsr (t : Nat) hv (.slice A cls.length c) (.slice (some ⟨g, 0, none⟩) t t) cls M (Ent.tail (Ent.tail HR.out)) hI (by have := HL.out; rw [← this]; exact Ent.rd) HBD.out
              have hone := HUN.out M
              have HG := Lib.hid (show goodM cls (bitsM t x) = goodM cls M by rw [HM.out])
              have g1 : World.cell? _ ⟨B, 1, none⟩ = some (.slice A cls.length c) := (hsr.pull 1).cell 1
              have HCS := Lib.hid (show (List.range (x + 1)).countP (fun x => goodM cls (bitsM t x)) = (List.range x).countP (fun x => goodM cls (bitsM t x)) + (if goodM cls (bitsM t x) = true then 1 else 0) by
                rw [List.range_succ, List.countP_append, List.countP_singleton])
              have hcle : (List.range x).countP (fun x => goodM cls (bitsM t x)) ≤ 1048576 := by
                have h1 : (List.range x).countP (fun x => goodM cls (bitsM t x)) ≤ (List.range x).length := List.countP_le_length
                rw [List.length_range] at h1
                have h2 : (2 : Nat) ^ t ≤ 2 ^ 20 := Nat.pow_le_pow_right (by decide) hn
                omega
              generalize (List.range x).countP (fun x => goodM cls (bitsM t x)) = K at *
              generalize underM (t : Nat) cls M = UU at *
              obtain ⟨u1, u2, u3⟩ := UU
              simp only at UW hone
              have HSR := Lib.hid hsr
              clear hsr
              by_cases h1 : u1 = 1
              · have du : (u1 == 1) = true := by simp [h1]
                have HG2 := Lib.hid (hone.1 h1)
                clear h1 hone
                go_wp2_with fail
                refine UW.mono ?_
                rintro e w5 ⟨rfl, h5⟩
                clear UW g0 g1
                go_wp2_with fail
                go_roundg (2 ^ t - (x + 1))
                case measure => omega
                case rel => exact ⟨x + 1, M, by omega, rfl, by go_num, by rw [HCS.out, HG.out, if_pos HG2.out]; go_num, HL.out, HBD.out, h5⟩
              · have du : (u1 == 1) = false := by simp [h1]
                have HG2 := Lib.hid (fun h => h1 (hone.2 h))
                clear h1 hone
                go_wp2_with fail
                refine UW.mono ?_
                rintro e w5 ⟨rfl, h5⟩
                clear UW g0 g1
                go_wp2_with fail
                go_roundg (2 ^ t - (x + 1))
                case measure => omega
                case rel => exact ⟨x + 1, M, by omega, rfl, by go_num, by rw [HCS.out, HG.out, if_neg HG2.out]; rfl, HL.out, HBD.out, h5⟩
        · have dlt : decide ((x : Int) < wrap64 (2 ^ n)) = false := decide_eq_false (by rw [pw]; omega)
          have HXE := Lib.hid (show x = 2 ^ n by omega)
          clear pw
          have h9 := hsr.drop.drop
          go_wp2_with fail
          go_ret2
          exact ⟨by rw [HK.out, ← HXE.out]; rfl, h9⟩
  · have d0 : (er != 0) = true := by simp [e0]
    have HU2 := Lib.hid (HU.out.trans (if_pos e0)); clear HU e0 hcok hun
    go_wp2_with fail
    go_ret2
    exact ⟨by rw [HU2.out]; rfl, h2.drop⟩
end Go.Proofs.Ytnmkdhoijdoccaa
