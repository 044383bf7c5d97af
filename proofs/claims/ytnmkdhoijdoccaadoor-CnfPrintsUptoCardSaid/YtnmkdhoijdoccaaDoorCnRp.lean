/- The reference's Print. -/
import Derived.Test.YtnmkdhoijdoccaaDoorCnPm
import Derived.Test.YtnmkdhoijdoccaaDoorCnCt
set_option linter.unusedVariables false
set_option linter.unusedSimpArgs false
namespace Go.Proofs.YtnmkdhoijdoccaaDoor
open Go Go.RowKit SL

set_option maxRecDepth 100000 in
set_option maxHeartbeats 8000000 in
theorem rprint_walk (W : World) (n : Int) (hn : I64 n) (vf : Value) (cls : List (List Int)) (hr : Ent [Old W] (Rd2 (cInt .i64) vf cls)) (hI : ∀ c ∈ cls, ∀ x ∈ c, I64 x) :
    Calls Tryd.prog 23 #[.agg #[.int .i64 n, vf]] W fun e w' => e = .returned (.tuple #[.string ⟨(printM n cls).1.toArray⟩, .int .i64 (printM n cls).2]) ∧ SL.St W [Old W] w' := by
  obtain ⟨i0, hi, hz0, hz1, hz2⟩ := info_parts infoU8
  obtain ⟨A, c, rfl, hm, -⟩ := (hr.use (SL.St.start W)).at
  unfold maxLen at hm
  have h1 := (SL.St.start W).alloc (.cells #[.int .i64 n, .slice A cls.length c] 24)
  have cw := rcheck_walk W _ _ h1 n hn (.slice A cls.length c) cls (Ent.tail hr) hI
  have hcv := checkM_vals n cls
  have hcok := @checkM_ok n cls
  have hU : printM n cls = if (checkM n cls).2 ≠ 0 then ([], (checkM n cls).2) else (headT n cls.length ++ bodyT cls, 0) := rfl
  generalize printM n cls = U at *
  generalize checkM n cls = C at *
  obtain ⟨place, er⟩ := C
  simp only at cw hcv hU hcok
  have HU := Lib.hid hU; clear hU
  obtain ⟨hc1, hc2⟩ := hcv
  have HR := Lib.hid hr
  have a0 := h1.cell 0
  have a1 := h1.cell 1
  clear hr
  go_enter Tryd.func23, Tryd.ntmps23
  go_wp2_with fail
  refine cw.mono ?_
  rintro e w1 ⟨rfl, h2⟩
  clear cw h1 a0 a1
  obtain ⟨B, hB⟩ : ∃ B, B = W.heap.size := ⟨_, rfl⟩
  have HB := Lib.hid hB
  rw [← hB] at h2 ⊢
  clear hB
  by_cases e0 : er = 0
  · subst e0
    obtain ⟨v1, v2, v3, hlits⟩ := hcok rfl
    have HU2 := Lib.hid (HU.out.trans (if_neg (by simp))); clear HU
    have hLL : ∀ x ∈ cls, x.length ≤ 1048576 ∧ ∀ y ∈ x, I64 y := fun x hx => ⟨by have := (hlits x hx).1; omega, hI x hx⟩
    have hbl := bodyT_len v3 hLL
    have hhl := headT_len hn v3
    clear hcok hlits
    have g0 : w1.cell? ⟨B, 0, none⟩ = some (.int .i64 n) := h2.cell 0
    have g1 : w1.cell? ⟨B, 1, none⟩ = some (.slice A cls.length c) := h2.cell 1
    obtain ⟨S, hS⟩ : ∃ S : World → Prop, S = fun w' => w'.cell? ⟨B, 0, none⟩ = some (.int .i64 n) ∧ w'.cell? ⟨B, 1, none⟩ = some (.slice A cls.length c) := ⟨_, rfl⟩
    have rk0 : ∀ w' : World, SL.Hd S w' → w'.cell? ⟨B, 0, none⟩ = some (.int .i64 n) := fun w' h => by unfold SL.Hd at h; rw [hS] at h; exact h.1
    have rk1 : ∀ w' : World, SL.Hd S w' → w'.cell? ⟨B, 1, none⟩ = some (.slice A cls.length c) := fun w' h => by unfold SL.Hd at h; rw [hS] at h; exact h.2
    have hx0 : SL.Hd S w1.drew := by unfold SL.Hd; rw [hS]; exact ⟨g0, g1⟩
    have mkS : ∀ (w' : World), SL.St W [Blk B (.cells #[.int .i64 n, .slice A cls.length c] 24 (0, 0)), Old W] w' → SL.Hd S w' := fun w' h => by unfold SL.Hd; rw [hS]; exact ⟨h.cell 0, h.cell 1⟩
    have HS := Lib.hid hS; clear hS
    have D1 := fun w => decimal_walk n.natAbs n (Nat.le_refl _) hn w
    have D2 := fun w => decimal_walk (cls.length : Int).natAbs (cls.length : Int) (Nat.le_refl _) ⟨by omega, by omega⟩ w
    have l1 := Lib.itoa_length_le n hn.1 hn.2
    have l2 := Lib.itoa_length_le (cls.length : Int) (by omega) (by omega)
    have HH := Lib.hid (show headT n cls.length = [112, 32, 99, 110, 102, 32] ++ Lib.itoa n ++ [32] ++ Lib.itoa cls.length ++ [10] from rfl)
    generalize headT n cls.length = H at *
    generalize Lib.itoa n = N1 at *
    generalize Lib.itoa (cls.length : Int) = N2 at *
    have s1 : (9223372036854775807 < 6 + N1.length) = False := eq_false (by omega)
    have s2 : (9223372036854775807 < 6 + N1.length + 1) = False := eq_false (by omega)
    have h2d := h2.drew
    clear g0 g1
    go_wp2_with fail
    -- region 5 of cadence/cadenceref02.Print: 0:move 1:fieldAddr 2:load 3:call fn 4:binOp 5:binOp 6:fieldAddr 7:load 8:call len 9:call fn 10:binOp 11:binOp 12:call append 13:assign
    refine wp_region_plan (SL.Hd S) [(0, 0), (1, 0), (2, 1), (6, 1), (7, 1), (8, 1), (3, 2), (4, 1), (5, 1), (9, 2)] 10 (by kernel_rfl) (by kernel_rfl) ?_
    iterate 2 (first | (refine plan_skip rfl rfl ?_; simp only [Act.put, List.setIfInBounds_toArray, List.set_cons_zero, List.set_cons_succ]) | (refine plan_pure (v := ?_) rfl rfl (fun _ => ?_) ?_; rotate_left; (focus (go_simp; try with_reducible rfl; done)); simp only [Act.put, List.setIfInBounds_toArray, List.set_cons_zero, List.set_cons_succ]))
    iterate 4 (first | (refine plan_held_skip rfl rfl (by assumption) ?_; simp only [Act.put, List.setIfInBounds_toArray, List.set_cons_zero, List.set_cons_succ]) | (refine plan_held (v := ?_) rfl rfl (fun _ hSw => ?_) (by assumption) ?_; rotate_left; (focus (go_simp; try with_reducible rfl; done)); simp only [Act.put, List.setIfInBounds_toArray, List.set_cons_zero, List.set_cons_succ]))
    ((refine plan_eff rfl (fun K hK => ?_)); go_simp; (refine (D1 _).mono ?_); (rintro e w7 ⟨rfl, hq7⟩); (have hs7 := St.through (ps := []) h2d hq7); (have hy7 := mkS _ hs7); (refine hK _ _ ⟨hy7, ?_⟩); clear hK K)
    iterate 2 (first | (refine plan_held_skip rfl rfl (by assumption) ?_; simp only [Act.put, List.setIfInBounds_toArray, List.set_cons_zero, List.set_cons_succ]) | (refine plan_held (v := ?_) rfl rfl (fun _ hSw => ?_) (by assumption) ?_; rotate_left; (focus (go_simp; try with_reducible rfl; done)); simp only [Act.put, List.setIfInBounds_toArray, List.set_cons_zero, List.set_cons_succ]))
    ((refine plan_eff rfl (fun K hK => ?_)); go_simp; (refine (D2 _).mono ?_); (rintro e w8 ⟨rfl, hq8⟩); (have hs8 := St.through (ps := []) hs7 hq8); (have hy8 := mkS _ hs8); (refine hK _ _ ⟨hy8, ?_⟩); clear hK K)
    refine plan_end ?_
    simp only [List.drop]
    have hbs : SL.St W (Buf 5 B (.slice none 0 0) (Lib.byteCells []) :: _) w8 := hs8.buf_nil 5 B
    clear rk0 rk1 hx0 mkS D1 D2 h2 h2d hs7 hs8 hy7 hy8 hq7 hq8 HS
    have hcat : ((((⟨#[112, 32, 99, 110, 102, 32]⟩ : ByteArray) ++ ⟨N1.toArray⟩) ++ ⟨#[32]⟩) ++ ⟨N2.toArray⟩) ++ ⟨#[10]⟩ = ⟨H.toArray⟩ := by
      rw [HH.out, show (⟨#[112, 32, 99, 110, 102, 32]⟩ : ByteArray) = ⟨([112, 32, 99, 110, 102, 32] : List UInt8).toArray⟩ from rfl, show (⟨#[32]⟩ : ByteArray) = ⟨([32] : List UInt8).toArray⟩ from rfl, show (⟨#[10]⟩ : ByteArray) = ⟨([10] : List UInt8).toArray⟩ from rfl]
      rw [app_text, app_text, app_text, app_text]
    replace hcat := Lib.hid hcat
    have hsf : ∀ P ∈ [Blk B (.cells #[.int .i64 n, .slice A cls.length c] 24 (0, 0)), Old W], SL.Safe B 5 P := fun P hP => by
      rcases List.mem_cons.1 hP with rfl | hP
      · exact safe_blk (by decide)
      · rw [List.mem_singleton.1 hP]; exact safe_old (by rw [HB.out]; exact Nat.le_refl _)
    have hBw : ∀ (w' : World), W.heap.size ≤ w'.heap.size → B ≤ w'.heap.size := fun w' h => by rw [HB.out]; exact h
    go_wp2_with (at_builtin; go_loud (refine step_str hbs hsf (hBw _ hbs.size) rfl _ _ rfl rfl _ rfl H hcat.out (by rw [List.length_nil]; omega) ?_); intro vb w9 hs9)
    clear hbs s1 s2 l1 l2
    rw [List.nil_append] at hs9
    go_wp2_with (refine NoPanic.normal ?_)
    go_loopg [6, 7] cls.length (fun k vb i wr => ∃ j : Nat, j ≤ cls.length ∧ k = cls.length - j ∧ i = .int .i64 j ∧ SL.St W [Buf 5 B vb (Lib.byteCells (H ++ bodyT (cls.take j))), Blk B (.cells #[.int .i64 n, .slice A cls.length c] 24 (0, 0)), Old W] wr)
    case atStart => exact ⟨0, Nat.zero_le _, rfl, rfl, by simpa [bodyT] using hs9⟩
    case round =>
      clear hs9
      obtain ⟨j, hj, hgk, rfl, hsr⟩ := hrel
      subst hgk
      have hb1 := hbl j hj
      have g0 : wr.cell? ⟨B, 0, none⟩ = some (.int .i64 n) := (hsr.pull 1).cell 0
      have g1 : wr.cell? ⟨B, 1, none⟩ = some (.slice A cls.length c) := (hsr.pull 1).cell 1
      by_cases hlt : j < cls.length
      · have HT := Lib.hid (bodyT_take hlt)
        obtain ⟨hx1, hx2⟩ := hLL _ (List.getElem_mem hlt)
        have HG := Lib.hid (List.getElem?_eq_getElem hlt)
        have hkl : ∀ m, m ≤ cls[j].length → (keyM (cls[j].take m)).length ≤ 22 * 1048576 := fun m hm => by
          have := keyM_len (c := cls[j].take m) fun y hy => hx2 y (List.mem_of_mem_take hy)
          rw [List.length_take_of_le hm] at this; omega
        generalize cls[j] = x at *
        have HK := Lib.hid (show ∀ T, H ++ (bodyT (cls.take j) ++ T) = (H ++ bodyT (cls.take j)) ++ T from fun T => (List.append_assoc _ _ _).symm)
        have hKl : (H ++ bodyT (cls.take j)).length ≤ 25000000000060 := by rw [List.length_append]; omega
        generalize H ++ bodyT (cls.take j) = K at *
        go_wp2_with fail
        go_loopg [6, 8] x.length (fun k vb2 i wr2 => ∃ m : Nat, m ≤ x.length ∧ k = x.length - m ∧ i = .int .i64 m ∧ SL.St W [Buf 5 B vb2 (Lib.byteCells (K ++ keyM (x.take m))), Blk B (.cells #[.int .i64 n, .slice A cls.length c] 24 (0, 0)), Old W] wr2)
        case atStart => exact ⟨0, Nat.zero_le _, rfl, rfl, by simpa [keyM] using hsr⟩
        case round =>
          clear hsr g0 g1
          obtain ⟨m, hm2, hgk, rfl, hs2⟩ := hrel
          subst hgk
          have hk1 := hkl m hm2
          have g0 := (hs2.pull 1).cell 0
          have g1 := (hs2.pull 1).cell 1
          obtain ⟨A', c', hv', -, hcc⟩ := (HR.out.use hs2.drop.drop).at
          obtain rfl : A = A' := by injection hv'
          obtain ⟨ad, Bc, nc, cc, hA', hcell, hrc⟩ := hcc j _ HG.out
          subst hA'
          obtain ⟨Bc', c2, hv, hxm, hcx⟩ := hrc
          obtain ⟨rfl, rfl, rfl⟩ : Bc = Bc' ∧ nc = x.length ∧ cc = c2 := by injection hv with h1 h2 h3; exact ⟨h1, h2, h3⟩
          unfold maxLen at hxm
          clear hv hcc hv'
          by_cases hltm : m < x.length
          · obtain ⟨ad2, rfl, hc2'⟩ := rd_at_int hcx m hltm
            have hxI := hx2 _ (List.getElem_mem hltm)
            have HM := Lib.hid (show keyM (x.take (m + 1)) = keyM (x.take m) ++ (Lib.itoa x[m] ++ [32]) by rw [List.take_succ_eq_append_getElem hltm, keyM_snoc])
            clear hcx
            generalize keyM (x.take m) = KX at *
            generalize x[m] = y at *
            have hil := Lib.itoa_length_le y hxI.1 hxI.2
            have D := decimal_walk y.natAbs y (Nat.le_refl _) hxI wr
            generalize Lib.itoa y = Y at *
            go_wp2_with fail
            refine D.mono ?_
            rintro e w3 ⟨rfl, hq3⟩
            have hs3 := St.through (ps := []) hs2 hq3
            clear D hq3 hs2 g0 g1 hcell hc2'
            have happ : (⟨Y.toArray⟩ : ByteArray) ++ ⟨#[32]⟩ = ⟨(Y ++ [32]).toArray⟩ := app_text Y [32]
            replace happ := Lib.hid happ
            go_wp2_with (at_builtin; go_loud (refine step_str hs3 hsf (hBw _ hs3.size) rfl _ _ rfl rfl _ rfl (Y ++ [32]) happ.out (by simp only [List.length_append, List.length_cons, List.length_nil]; omega) ?_); intro vb4 w4 hs4)
            rw [List.append_assoc, ← HM.out] at hs4
            go_wp2_with fail
            go_roundg (x.length - (m + 1))
            case measure => omega
            case rel => exact ⟨m + 1, by omega, rfl, by go_num, hs4⟩
          · obtain rfl : m = x.length := by omega
            rw [List.take_length] at hs2 hk1
            have HC := Lib.hid (show clT x = keyM x ++ [48, 10] from rfl)
            generalize keyM x = KX at *
            go_wp2_with (at_builtin; go_loud (refine step_str hs2 hsf (hBw _ hs2.size) rfl _ _ rfl rfl _ rfl [48, 10] rfl (by simp only [List.length_append, List.length_cons, List.length_nil]; omega) ?_); intro vb4 w4 hs4)
            go_wp2_with fail
            go_roundg (cls.length - (j + 1))
            case measure => omega
            case rel => exact ⟨j + 1, by omega, rfl, by go_num, by rw [HT.out, HC.out, HK.out]; rw [List.append_assoc] at hs4; exact hs4⟩
      · obtain rfl : j = cls.length := by omega
        rw [List.take_length] at hsr hb1
        have ho := hsr.buf
        have hKl : (H ++ bodyT cls).length ≤ 25000000000060 := by rw [List.length_append]; omega
        have hKne : H ++ bodyT cls ≠ [] := by rw [HH.out]; simp
        generalize H ++ bodyT cls = K at *
        have hlen := Lib.byteCells_length K
        rcases ho.2 with ⟨rfl, h0⟩ | ⟨g, cap, cur, rfl, _, hg, hcc, hcm, hcs, htk⟩
        · exact absurd (List.eq_nil_of_length_eq_zero (by rw [← hlen]; exact h0)) hKne
        · rw [hlen] at ho ⊢
          have hcv : (convert 76 9 (.slice (some ⟨g, 0, none⟩) K.length cap)).run Tryd.prog wr = .ok (.string ⟨K.toArray⟩) wr := by
            have h := run_convert_bytes_back (P := Tryd.prog) wr 76 9 5 ⟨g, 0, none⟩ cap K Tryd.underlying76 Tryd.underlying5 Tryd.underlying9 (fun t ht => ho.cells (g := g) rfl t _ (by simp [Lib.byteCells, ht]))
            exact h
          go_wp2_with fail
          go_ret2
          exact ⟨by rw [HU2.out]; rfl, hsr.drop.drop⟩
  · have d0 : (er != 0) = true := by simp [e0]
    have HU2 := Lib.hid (HU.out.trans (if_pos e0)); clear HU e0 hcok
    go_wp2_with fail
    go_ret2
    exact ⟨by rw [HU2.out]; rfl, h2.drop⟩
end Go.Proofs.YtnmkdhoijdoccaaDoor
