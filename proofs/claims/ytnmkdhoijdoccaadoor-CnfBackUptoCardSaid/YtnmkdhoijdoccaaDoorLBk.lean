/- The law CnfBack. -/
import Derived.Test.YtnmkdhoijdoccaaDoorLChk
import Derived.Test.YtnmkdhoijdoccaaDoorCnPp
import Derived.Test.YtnmkdhoijdoccaaDoorCnPa
import Derived.Test.YtnmkdhoijdoccaaDoorCnBk2
import Derived.Test.YtnmkdhoijdoccaaDoorCnMy
import Derived.Test.YtnmkdhoijdoccaaDoorCnSm
import Derived.Deep.CutRange
import Derived.Lib.SmallJoins
set_option linter.unusedVariables false
set_option linter.unusedSimpArgs false
namespace Go.Proofs.YtnmkdhoijdoccaaDoor
open Go Go.RowKit SL

theorem mkB_app (a b : List UInt8) : mkB a ++ mkB b = mkB (a ++ b) := by
  have h : (mkB a ++ mkB b).data.toList = (mkB (a ++ b)).data.toList := by
    rw [Go.Joins.data_append]; rfl
  rw [← mkB_data (mkB a ++ mkB b), h, mkB_data]
set_option maxRecDepth 100000 in
set_option maxHeartbeats 8000000 in
theorem back_law (W : World) (htab : Tab W) (mx : Int) (hmx : W.cell? ⟨0, 0, none⟩ = some (.int .i64 mx)) (n : Int) (vf : Value) (cls : List (List Int)) (gv : Value) (gaps : List Int) (hn : I64 n) (hr : Ent [Old W] (Rd2 (cInt .i64) vf cls)) (hI : ∀ c ∈ cls, ∀ x ∈ c, I64 x) (hg : Ent [Old W] (Rd (cInt .i64) gv gaps)) (hgI : ∀ x ∈ gaps, I64 x) (hsz : (cls.map fun c => c.length + 1).sum + gaps.length ≤ 1048576) :
    Calls Tryd.prog 9 #[.agg #[.int .i64 n, vf], gv] W fun e w' => e = .returned (.bool true) ∧ SL.St W [Old W] w' := by
  have hm : Ent [Old W] (fun w => w.cell? ⟨0, 0, none⟩ = some (.int .i64 mx)) := Ent.old fun w hk => cells_kept hk _ _ hmx
  have uT : Ent [Old W] Tab := SL.tab_old htab
  obtain ⟨A, c, rfl, -, -⟩ := (hr.use (SL.St.start W)).at
  obtain ⟨Ag, cg, rfl, -, -⟩ := hg.use (SL.St.start W)
  have h1 := (SL.St.start W).alloc (.cells #[.int .i64 n, .slice A cls.length c] 24)
  go_enter Tryd.func9, Tryd.ntmps9
  go_wp2_with fail
  refine (live_walk W _ _ h1).mono ?_
  rintro e w1 ⟨rfl, h2⟩
  generalize W.heap.size = F0 at *
  clear h1
  have a0 : w1.cell? ⟨F0, 0, none⟩ = some (.int .i64 n) := h2.cell 0
  have a1 : w1.cell? ⟨F0, 1, none⟩ = some (.slice A cls.length c) := h2.cell 1
  have PR := print_walk w1 ((Ent.tail uT).use h2) n hn (.slice A cls.length c) cls (old2 ((Ent.tail hr).use h2)) hI
  by_cases hc : (checkM n cls).2 = 0
  · have hS := print_short hn hc (by omega)
    have hpp := parse_print hc
    have hpg := parse_gaps hc gaps
    have he : (printM n cls).2 = 0 := by unfold printM; rw [if_neg (by rw [hc]; decide)]
    rw [he] at PR
    have PR2 := fun (w : World) (ht : Tab w) (v : Value) (hv : Rd2 (cInt .i64) v cls w) => print_walk w ht n hn v cls (old2 hv) hI
    simp only [he] at PR2
    clear he
    generalize (printM n cls).1 = S at *
    change Calls _ _ _ _ fun e w' => e = .returned (.tuple #[.string (mkB S), .int .i64 0]) ∧ SL.St w1 [Old w1] w' at PR
    have PRH := Lib.hid (show ∀ (w : World) (ht : Tab w) (v : Value) (hv : Rd2 (cInt .i64) v cls w), Calls Tryd.prog 22 #[.agg #[.int .i64 n, v]] w fun e w' => e = .returned (.tuple #[.string (mkB S), .int .i64 0]) ∧ SL.St w [Old w] w' from PR2)
    clear PR2 hc
    have hSz : (mkB S).size = S.length := by rw [Lib.size_eq, data_mkB]
    go_wp2_with fail
    refine PR.mono ?_
    rintro e w2 ⟨rfl, hq⟩
    have h3 := St.through (ps := []) h2 hq
    clear PR hq h2 a0 a1
    have P1 := parse_walk W w2 _ h3 (mkB S) (by omega) mx (Ent.tail hm)
    rw [hpp] at P1
    have HPG := Lib.hid hpg
    clear hpp hpg
    have d0 : ((0 : Int) != 0) = false := by simp
    go_wp2_with (go_at_call 13; refine (no_walk _ _).mono ?_; rintro e w' ⟨rfl, rfl⟩)
    refine P1.mono ?_
    rintro e w3 ⟨v1, Q1, rfl, h4, r1⟩
    clear P1 h3
    obtain ⟨A1, c1, rfl, -, -⟩ := (r1.use h4).at
    have h5 := h4.alloc (.cells #[.int .i64 n, .slice A1 cls.length c1] 24)
    have AL := alike_walk W _ _ h5 n n (.slice A cls.length c) (.slice A1 cls.length c1) cls cls (Ent.tail (Ent.tail (Ent.tail hr))) (Ent.tail r1)
    rw [decide_eq_true ⟨rfl, rfl⟩] at AL
    have a0 : (w3.alloc (.cells #[.int .i64 n, .slice A1 cls.length c1] 24)).cell? ⟨F0, 0, none⟩ = some (.int .i64 n) := (h5.pull 2).cell 0
    have a1 : (w3.alloc (.cells #[.int .i64 n, .slice A1 cls.length c1] 24)).cell? ⟨F0, 1, none⟩ = some (.slice A cls.length c) := (h5.pull 2).cell 1
    have g0 := h5.cell 0
    have g1 := h5.cell 1
    clear h4
    go_wp2_with (go_at_call 13; refine (no_walk _ _).mono ?_; rintro e w' ⟨rfl, rfl⟩)
    refine AL.mono ?_
    rintro e w' ⟨rfl, q, rfl⟩
    have h6 : SL.St W (Blk F0 (.cells #[.int .i64 n, .slice A cls.length c] 24 (0, 0)) :: [Old W]) _ := (SL.St.drewN (((h5.alloc (.cells #[.int .i64 n, .slice A cls.length c] 24)).alloc (.cells #[.int .i64 n, .slice A1 cls.length c1] 24)).drop.drop) q).drop.drop
    generalize World.drewN _ q = w4 at h6 ⊢
    clear AL h5 a0 a1 g0 g1 d0 r1
    generalize w3.heap.size = F1 at *
    have HT := Lib.hid (gapT_len gaps S)
    obtain ⟨T, hT⟩ : ∃ T, T = gapT gaps S := ⟨_, rfl⟩
    rw [← hT] at HPG HT
    have HTE := Lib.hid hT
    clear hT
    go_wp2_with fail
    go_loopg [9, 10, 11] (mkB S).size (fun k tv nv iv wr => ∃ (j m : Nat) (tt : List UInt8), j ≤ (mkB S).size ∧ k = (mkB S).size - j ∧ tv = .string (mkB tt) ∧ nv = .int .i64 m ∧ iv = .int .i64 j ∧ m ≤ j ∧ tt.length ≤ 8 + 10 * j ∧ T = tt ++ trS (sepT gaps) m (S.drop j) ∧ SL.St W (Blk F0 (.cells #[.int .i64 n, .slice A cls.length c] 24 (0, 0)) :: [Old W]) wr)
    case atStart => exact ⟨0, 0, cBeg, Nat.zero_le _, rfl, rfl, rfl, rfl, Nat.le_refl _, by decide, by rw [HTE.out]; rfl, h6⟩
    case round =>
      clear h6
      obtain ⟨j, m, tt, hj, hgk, rfl, rfl, rfl, hmj, htt, hTT, hsr⟩ := hrel
      subst hgk
      have HTT := Lib.hid hTT; clear hTT
      by_cases hlt : j < (mkB S).size
      · have hk3 := kM_le gaps m
        have hSd : S.drop j = ((mkB S)[j]'hlt) :: S.drop (j + 1) := by
          have := drop_get (mkB S) j hlt
          rw [data_mkB] at this
          exact this
        have hex : (mkB S).extract j (j + 1) = mkB [(mkB S)[j]'hlt] := by
          rw [ext_piece, data_mkB]
          unfold pieceL
          rw [hSd, show j + 1 - j = 1 by omega]; rfl
        have HTT2 := HTT.out
        rw [hSd] at HTT2
        replace HTT2 := Lib.hid HTT2
        clear HTT
        have HEX := Lib.hid hex
        clear hSd hex
        have hm4 : m ≤ 11534400 := by omega
        go_upto_if 63 with fail
        go_cut [1, 12] from 55 to 71 (fun gs kv wx => gs = .slice Ag gaps.length cg ∧ kv = .int .i64 (kM gaps m : Nat) ∧ wx = wr)
        case first =>
          by_cases hge : gaps = []
          · have HK := Lib.hid (show kM gaps m = 0 from if_pos hge)
            have HL0 := Lib.hid (show gaps.length = 0 by rw [hge]; rfl)
            have d0 : decide ((0 : Int) < (gaps.length : Int)) = false := decide_eq_false (by rw [hge]; simp)
            have d1 : ¬ 0 < gaps.length := by rw [hge]; simp
            have d2 : ¬ (0 : Int) < (gaps.length : Int) := by omega
            clear hge
            go_wp2_with fail
            go_meet
            case rel => exact ⟨by rw [HL0.out], by rw [HK.out]; rfl, rfl⟩
          · have hgl := List.length_pos_iff.2 hge
            have d0 : decide ((0 : Int) < (gaps.length : Int)) = true := decide_eq_true (by omega)
            have hix := Nat.mod_lt m hgl
            obtain ⟨ad, rfl, hcell⟩ := SL.rd_get (i := m % gaps.length) ((Ent.tail hg).use hsr) (List.getElem?_eq_getElem hix)
            have HK := Lib.hid (show kM gaps m = (bits .and .i64 gaps[m % gaps.length] 3).toNat from by
              unfold kM
              rw [if_neg hge, List.getD_eq_getElem?_getD, List.getElem?_eq_getElem hix]; rfl)
            have h3 := and3 gaps[m % gaps.length]
            clear hge
            go_wp2_with fail
            go_meet
            case rel => exact ⟨rfl, by rw [HK.out, Int.toNat_of_nonneg h3.1], rfl⟩
        case rest =>
          obtain ⟨rfl, rfl, rfl⟩ := hcut
          have hTR : trS (sepT gaps) m (((mkB S)[j]'hlt) :: S.drop (j + 1)) = if ((mkB S)[j]'hlt) = 32 ∨ ((mkB S)[j]'hlt) = 10 then sepK (kM gaps m) m ((mkB S)[j]'hlt) ++ trS (sepT gaps) (m + 1) (S.drop (j + 1)) else ((mkB S)[j]'hlt) :: trS (sepT gaps) m (S.drop (j + 1)) := by rw [trS]; rfl
          have HTR := Lib.hid hTR; clear hTR
          generalize kM gaps m = K at *
          have hsl := HEX.out
          have happ : ∀ X : List UInt8, mkB tt ++ mkB X = mkB (tt ++ X) := fun X => mkB_app tt X
          have hts : (mkB tt).size = tt.length := by rw [Lib.size_eq, data_mkB]
          have hb1 : (mkB [(mkB S)[j]'hlt]).size = 1 := rfl
          have hov : (9223372036854775807 < tt.length + 1) = False := eq_false (by omega)
          have hb1' := hb1
          by_cases b32 : ((mkB S)[j]'hlt) = 32
          · have e1 : (((((mkB S)[j]'hlt).toNat : Nat) : Int) != 32) = false := by rw [b32]; rfl
            have e3 : (((((mkB S)[j]'hlt).toNat : Nat) : Int) == 10) = false := by rw [b32]; rfl
            by_cases hm4' : m < 4
            · have d4 : decide ((m : Int) < 4) = true := decide_eq_true (by omega)
              by_cases hk2 : K < 2
              · have d5 : decide ((K : Int) < 2) = true := decide_eq_true (by omega)
                have HT3 := Lib.hid (show T = (tt ++ (if K = 2 then [13, ((mkB S)[j]'hlt)] else if K = 3 then [32, 9, ((mkB S)[j]'hlt)] else [((mkB S)[j]'hlt)])) ++ trS (sepT gaps) (m + 1) (S.drop (j + 1)) from by
                  rw [HTT2.out, HTR.out, if_pos (.inl b32), List.append_assoc]
                  unfold sepK
                  rw [if_pos (.inr ⟨hm4', hk2⟩)])
                clear HTT2 HTR b32
                have e13 : (⟨#[13]⟩ : ByteArray) ++ mkB [((mkB S)[j]'hlt)] = mkB [13, ((mkB S)[j]'hlt)] := mkB_app [13] [((mkB S)[j]'hlt)]
                have e329 : (⟨#[32, 9]⟩ : ByteArray) ++ mkB [((mkB S)[j]'hlt)] = mkB [32, 9, ((mkB S)[j]'hlt)] := mkB_app [32, 9] [((mkB S)[j]'hlt)]
                have p1 : (j : Int) + 1 ≤ ((mkB S).size : Int) := by omega
                have p1' : (j : Int) + 1 ≤ (S.length : Int) := by omega
                have p2 : ((j : Int) + 1).toNat = j + 1 := by omega
                have p3 : 0 ≤ (j : Int) + 1 := by omega
                have p4 : IntKind.i64.wrap ((j : Int) + 1) = (j : Int) + 1 := by simp [IntKind.wrap, IntKind.bits, IntKind.signed]; omega
                have p5 : (j : Int) ≤ (j : Int) + 1 := by omega
                have p6 : j ≤ j + 1 := by omega
                have p7 : j + 1 ≤ S.length := by omega
                have hb := hsr.drew.alloc (.cells #[.string (mkB [((mkB S)[j]'hlt)]), .string (mkB [((mkB S)[j]'hlt)]), .string (mkB [13, ((mkB S)[j]'hlt)]), .string (mkB [32, 9, ((mkB S)[j]'hlt)])] 9)
                have hx0 : SL.Hd (fun _ : World => True) (World.drew wc) := (trivial : (fun _ : World => True) _)
                have hk4 : K = 0 ∨ K = 1 ∨ K = 2 ∨ K = 3 := by omega
                clear happ
                go_wp2_with fail
                -- region 23 of cadence/cadencelaw02.CnfBack: 0:move 1:move 2:move 3:move 4:binOp 5:slice 6:move 7:move 8:move 9:binOp 10:slice 11:move 12:move 13:move 14:binOp 15:slice 16:binOp 17:move 18:move 19:move 20:binOp 21:slice 22:binOp 23:buildSlice 24:move 25:indexAddr 26:load 27:binOp 28:assign
                refine wp_region_plan (SL.Hd (fun _ : World => True)) [(0, 0), (1, 0), (2, 0), (3, 0), (4, 0), (5, 0), (6, 0), (7, 0), (8, 0), (9, 0), (10, 0), (11, 0), (12, 0), (13, 0), (14, 0), (15, 0), (16, 0), (17, 0), (18, 0), (19, 0), (20, 0), (21, 0), (22, 0), (24, 0), (23, 3)] 25 (by kernel_rfl) (by kernel_rfl) ?_
                iterate 24 (first | (refine plan_skip rfl rfl ?_; simp only [Act.put, List.setIfInBounds_toArray, List.set_cons_zero, List.set_cons_succ]) | (refine plan_pure (v := ?_) rfl rfl (fun _ => ?_) ?_; rotate_left; (focus (go_simp; try with_reducible rfl; done)); simp only [Act.put, List.setIfInBounds_toArray, List.set_cons_zero, List.set_cons_succ]))
                ((refine plan_do rfl (fun K hK => ?_)); go_simp; (refine hK _ _ ?_); clear hK K)
                refine plan_end ?_
                simp only [List.drop]
                clear p1 p1' p2 p3 p4 p5 p6 p7 hx0
                rcases hk4 with rfl | rfl | rfl | rfl
                · have happ2 : mkB tt ++ mkB [((mkB S)[j]'hlt)] = mkB (tt ++ [((mkB S)[j]'hlt)]) := mkB_app tt [((mkB S)[j]'hlt)]
                  have hsz2 : (mkB [((mkB S)[j]'hlt)]).size = 1 := rfl
                  have hov2 : (9223372036854775807 < tt.length + 1) = False := eq_false (by omega)
                  have hc0 := hb.cell 0
                  go_wp2_with fail
                  refine NoPanic.normal ?_
                  go_wp2_with fail
                  go_roundg ((mkB S).size - (j + 1))
                  case measure => omega
                  case rel => exact ⟨j + 1, m + 1, tt ++ [((mkB S)[j]'hlt)], by omega, rfl, rfl, by go_num, by go_num, by omega, by simp; omega, HT3.out, hb.drop⟩
                · have happ2 : mkB tt ++ mkB [((mkB S)[j]'hlt)] = mkB (tt ++ [((mkB S)[j]'hlt)]) := mkB_app tt [((mkB S)[j]'hlt)]
                  have hsz2 : (mkB [((mkB S)[j]'hlt)]).size = 1 := rfl
                  have hov2 : (9223372036854775807 < tt.length + 1) = False := eq_false (by omega)
                  have hc0 := hb.cell 1
                  go_wp2_with fail
                  refine NoPanic.normal ?_
                  go_wp2_with fail
                  go_roundg ((mkB S).size - (j + 1))
                  case measure => omega
                  case rel => exact ⟨j + 1, m + 1, tt ++ [((mkB S)[j]'hlt)], by omega, rfl, rfl, by go_num, by go_num, by omega, by simp; omega, HT3.out, hb.drop⟩
                · omega
                · omega
              · have d5 : decide ((K : Int) < 2) = false := decide_eq_false (by omega)
                have HT3 := Lib.hid (show T = (tt ++ [9, 32]) ++ trS (sepT gaps) (m + 1) (S.drop (j + 1)) from by
                  rw [HTT2.out, HTR.out, if_pos (.inl b32), List.append_assoc]
                  unfold sepK
                  rw [if_neg (by rintro (e | ⟨-, e⟩); · rw [b32] at e; exact absurd e (by decide)
                                 · exact hk2 e), if_pos hm4'])
                have hov2 : (9223372036854775807 < tt.length + 2) = False := eq_false (by omega)
                have happ2 : mkB tt ++ (⟨#[9, 32]⟩ : ByteArray) = mkB (tt ++ [9, 32]) := mkB_app tt [9, 32]
                clear HTT2 HTR b32 happ
                go_wp2_with fail
                go_roundg ((mkB S).size - (j + 1))
                case measure => omega
                case rel => exact ⟨j + 1, m + 1, tt ++ [9, 32], by omega, rfl, rfl, by go_num, by go_num, by omega, by simp; omega, HT3.out, hsr⟩
            · have d4 : decide ((m : Int) < 4) = false := decide_eq_false (by omega)
              have HT3 := Lib.hid (show T = (tt ++ (if K = 1 then [10] else if K = 2 then [10, 10, 99, 32, 49, 32, 50, 32, 48, 10] else if K = 3 then [32, 13, 9, 32] else [32])) ++ trS (sepT gaps) (m + 1) (S.drop (j + 1)) from by
                rw [HTT2.out, HTR.out, if_pos (.inl b32), List.append_assoc]
                unfold sepK
                rw [if_neg (by rintro (e | ⟨e, -⟩); · rw [b32] at e; exact absurd e (by decide)
                               · exact hm4' e), if_neg hm4'])
              have hb := hsr.alloc (.cells #[.string (⟨#[32]⟩ : ByteArray), .string (⟨#[10]⟩ : ByteArray), .string (⟨#[10, 10, 99, 32, 49, 32, 50, 32, 48, 10]⟩ : ByteArray), .string (⟨#[32, 13, 9, 32]⟩ : ByteArray)] 9)
              clear HTT2 HTR b32
              have hk4 : K = 0 ∨ K = 1 ∨ K = 2 ∨ K = 3 := by omega
              rcases hk4 with rfl | rfl | rfl | rfl
              · have happ2 : mkB tt ++ (⟨#[32]⟩ : ByteArray) = mkB (tt ++ [32]) := mkB_app tt [32]
                have hc0 := hb.cell 0
                clear happ
                go_wp2_with fail
                go_roundg ((mkB S).size - (j + 1))
                case measure => omega
                case rel => exact ⟨j + 1, m + 1, tt ++ [32], by omega, rfl, rfl, by go_num, by go_num, by omega, by simp; omega, HT3.out, hb.drop⟩
              · have happ2 : mkB tt ++ (⟨#[10]⟩ : ByteArray) = mkB (tt ++ [10]) := mkB_app tt [10]
                have hc0 := hb.cell 1
                clear happ
                go_wp2_with fail
                go_roundg ((mkB S).size - (j + 1))
                case measure => omega
                case rel => exact ⟨j + 1, m + 1, tt ++ [10], by omega, rfl, rfl, by go_num, by go_num, by omega, by simp; omega, HT3.out, hb.drop⟩
              · have happ2 : mkB tt ++ (⟨#[10, 10, 99, 32, 49, 32, 50, 32, 48, 10]⟩ : ByteArray) = mkB (tt ++ [10, 10, 99, 32, 49, 32, 50, 32, 48, 10]) := mkB_app tt [10, 10, 99, 32, 49, 32, 50, 32, 48, 10]
                have hov2 : (9223372036854775807 < tt.length + 10) = False := eq_false (by omega)
                have hc0 := hb.cell 2
                clear happ
                go_wp2_with fail
                go_roundg ((mkB S).size - (j + 1))
                case measure => omega
                case rel => exact ⟨j + 1, m + 1, tt ++ [10, 10, 99, 32, 49, 32, 50, 32, 48, 10], by omega, rfl, rfl, by go_num, by go_num, by omega, by simp; omega, HT3.out, hb.drop⟩
              · have happ2 : mkB tt ++ (⟨#[32, 13, 9, 32]⟩ : ByteArray) = mkB (tt ++ [32, 13, 9, 32]) := mkB_app tt [32, 13, 9, 32]
                have hov2 : (9223372036854775807 < tt.length + 4) = False := eq_false (by omega)
                have hc0 := hb.cell 3
                clear happ
                go_wp2_with fail
                go_roundg ((mkB S).size - (j + 1))
                case measure => omega
                case rel => exact ⟨j + 1, m + 1, tt ++ [32, 13, 9, 32], by omega, rfl, rfl, by go_num, by go_num, by omega, by simp; omega, HT3.out, hb.drop⟩
          · by_cases b10 : ((mkB S)[j]'hlt) = 10
            · have e1 : (((((mkB S)[j]'hlt).toNat : Nat) : Int) != 32) = true := by rw [b10]; rfl
              have e2 : (((((mkB S)[j]'hlt).toNat : Nat) : Int) != 10) = false := by rw [b10]; rfl
              have e3 : (((((mkB S)[j]'hlt).toNat : Nat) : Int) == 10) = true := by rw [b10]; rfl
              have HT3 := Lib.hid (show T = (tt ++ (if K = 2 then [13, ((mkB S)[j]'hlt)] else if K = 3 then [32, 9, ((mkB S)[j]'hlt)] else [((mkB S)[j]'hlt)])) ++ trS (sepT gaps) (m + 1) (S.drop (j + 1)) from by
                rw [HTT2.out, HTR.out, if_pos (.inr b10), List.append_assoc]
                unfold sepK
                rw [if_pos (.inl b10)])
              clear HTT2 HTR b32 b10
              have e13 : (⟨#[13]⟩ : ByteArray) ++ mkB [((mkB S)[j]'hlt)] = mkB [13, ((mkB S)[j]'hlt)] := mkB_app [13] [((mkB S)[j]'hlt)]
              have e329 : (⟨#[32, 9]⟩ : ByteArray) ++ mkB [((mkB S)[j]'hlt)] = mkB [32, 9, ((mkB S)[j]'hlt)] := mkB_app [32, 9] [((mkB S)[j]'hlt)]
              have p1 : (j : Int) + 1 ≤ ((mkB S).size : Int) := by omega
              have p1' : (j : Int) + 1 ≤ (S.length : Int) := by omega
              have p2 : ((j : Int) + 1).toNat = j + 1 := by omega
              have p3 : 0 ≤ (j : Int) + 1 := by omega
              have p4 : IntKind.i64.wrap ((j : Int) + 1) = (j : Int) + 1 := by simp [IntKind.wrap, IntKind.bits, IntKind.signed]; omega
              have p5 : (j : Int) ≤ (j : Int) + 1 := by omega
              have p6 : j ≤ j + 1 := by omega
              have p7 : j + 1 ≤ S.length := by omega
              have hb := hsr.drew.alloc (.cells #[.string (mkB [((mkB S)[j]'hlt)]), .string (mkB [((mkB S)[j]'hlt)]), .string (mkB [13, ((mkB S)[j]'hlt)]), .string (mkB [32, 9, ((mkB S)[j]'hlt)])] 9)
              have hx0 : SL.Hd (fun _ : World => True) (World.drew wc) := (trivial : (fun _ : World => True) _)
              have hk4 : K = 0 ∨ K = 1 ∨ K = 2 ∨ K = 3 := by omega
              clear happ
              go_wp2_with fail
              -- region 23 of cadence/cadencelaw02.CnfBack: 0:move 1:move 2:move 3:move 4:binOp 5:slice 6:move 7:move 8:move 9:binOp 10:slice 11:move 12:move 13:move 14:binOp 15:slice 16:binOp 17:move 18:move 19:move 20:binOp 21:slice 22:binOp 23:buildSlice 24:move 25:indexAddr 26:load 27:binOp 28:assign
              refine wp_region_plan (SL.Hd (fun _ : World => True)) [(0, 0), (1, 0), (2, 0), (3, 0), (4, 0), (5, 0), (6, 0), (7, 0), (8, 0), (9, 0), (10, 0), (11, 0), (12, 0), (13, 0), (14, 0), (15, 0), (16, 0), (17, 0), (18, 0), (19, 0), (20, 0), (21, 0), (22, 0), (24, 0), (23, 3)] 25 (by kernel_rfl) (by kernel_rfl) ?_
              iterate 24 (first | (refine plan_skip rfl rfl ?_; simp only [Act.put, List.setIfInBounds_toArray, List.set_cons_zero, List.set_cons_succ]) | (refine plan_pure (v := ?_) rfl rfl (fun _ => ?_) ?_; rotate_left; (focus (go_simp; try with_reducible rfl; done)); simp only [Act.put, List.setIfInBounds_toArray, List.set_cons_zero, List.set_cons_succ]))
              ((refine plan_do rfl (fun K hK => ?_)); go_simp; (refine hK _ _ ?_); clear hK K)
              refine plan_end ?_
              simp only [List.drop]
              clear p1 p1' p2 p3 p4 p5 p6 p7 hx0
              rcases hk4 with rfl | rfl | rfl | rfl
              · have happ2 : mkB tt ++ mkB [((mkB S)[j]'hlt)] = mkB (tt ++ [((mkB S)[j]'hlt)]) := mkB_app tt [((mkB S)[j]'hlt)]
                have hsz2 : (mkB [((mkB S)[j]'hlt)]).size = 1 := rfl
                have hov2 : (9223372036854775807 < tt.length + 1) = False := eq_false (by omega)
                have hc0 := hb.cell 0
                go_wp2_with fail
                refine NoPanic.normal ?_
                go_wp2_with fail
                go_roundg ((mkB S).size - (j + 1))
                case measure => omega
                case rel => exact ⟨j + 1, m + 1, tt ++ [((mkB S)[j]'hlt)], by omega, rfl, rfl, by go_num, by go_num, by omega, by simp; omega, HT3.out, hb.drop⟩
              · have happ2 : mkB tt ++ mkB [((mkB S)[j]'hlt)] = mkB (tt ++ [((mkB S)[j]'hlt)]) := mkB_app tt [((mkB S)[j]'hlt)]
                have hsz2 : (mkB [((mkB S)[j]'hlt)]).size = 1 := rfl
                have hov2 : (9223372036854775807 < tt.length + 1) = False := eq_false (by omega)
                have hc0 := hb.cell 1
                go_wp2_with fail
                refine NoPanic.normal ?_
                go_wp2_with fail
                go_roundg ((mkB S).size - (j + 1))
                case measure => omega
                case rel => exact ⟨j + 1, m + 1, tt ++ [((mkB S)[j]'hlt)], by omega, rfl, rfl, by go_num, by go_num, by omega, by simp; omega, HT3.out, hb.drop⟩
              · have happ2 : mkB tt ++ mkB [13, ((mkB S)[j]'hlt)] = mkB (tt ++ [13, ((mkB S)[j]'hlt)]) := mkB_app tt [13, ((mkB S)[j]'hlt)]
                have hsz2 : (mkB [13, ((mkB S)[j]'hlt)]).size = 2 := rfl
                have hov2 : (9223372036854775807 < tt.length + 2) = False := eq_false (by omega)
                have hc0 := hb.cell 2
                go_wp2_with fail
                refine NoPanic.normal ?_
                go_wp2_with fail
                go_roundg ((mkB S).size - (j + 1))
                case measure => omega
                case rel => exact ⟨j + 1, m + 1, tt ++ [13, ((mkB S)[j]'hlt)], by omega, rfl, rfl, by go_num, by go_num, by omega, by simp; omega, HT3.out, hb.drop⟩
              · have happ2 : mkB tt ++ mkB [32, 9, ((mkB S)[j]'hlt)] = mkB (tt ++ [32, 9, ((mkB S)[j]'hlt)]) := mkB_app tt [32, 9, ((mkB S)[j]'hlt)]
                have hsz2 : (mkB [32, 9, ((mkB S)[j]'hlt)]).size = 3 := rfl
                have hov2 : (9223372036854775807 < tt.length + 3) = False := eq_false (by omega)
                have hc0 := hb.cell 3
                go_wp2_with fail
                refine NoPanic.normal ?_
                go_wp2_with fail
                go_roundg ((mkB S).size - (j + 1))
                case measure => omega
                case rel => exact ⟨j + 1, m + 1, tt ++ [32, 9, ((mkB S)[j]'hlt)], by omega, rfl, rfl, by go_num, by go_num, by omega, by simp; omega, HT3.out, hb.drop⟩
            · have e1 : (((((mkB S)[j]'hlt).toNat : Nat) : Int) != 32) = true := by
                rw [bne_iff_ne]; intro e; exact b32 (UInt8.toNat_inj.1 (Int.ofNat.inj e))
              have e2 : (((((mkB S)[j]'hlt).toNat : Nat) : Int) != 10) = true := by
                rw [bne_iff_ne]; intro e; exact b10 (UInt8.toNat_inj.1 (Int.ofNat.inj e))
              have HT3 := Lib.hid (show T = (tt ++ [(mkB S)[j]'hlt]) ++ trS (sepT gaps) m (S.drop (j + 1)) from by
                rw [HTT2.out, HTR.out, if_neg (by rintro (e | e); · exact b32 e
                                                  · exact b10 e), List.append_assoc]; rfl)
              clear HTT2 HTR b32 b10
              go_wp2_with fail
              go_roundg ((mkB S).size - (j + 1))
              case measure => omega
              case rel => exact ⟨j + 1, m, tt ++ [(mkB S)[j]'hlt], by omega, rfl, rfl, rfl, by go_num, by omega, by simp; omega, HT3.out, hsr⟩
      · obtain rfl : j = (mkB S).size := by omega
        have ht2 : T = tt := by rw [HTT.out, hSz, List.drop_length]; simp [trS]
        subst ht2
        clear HTT
        have P2 := parse_walk W wr _ hsr (mkB T) (by rw [Lib.size_eq, data_mkB]; have := HT.out; omega) mx (Ent.tail hm)
        rw [HPG.out] at P2
        go_wp2_with fail
        refine P2.mono ?_
        rintro e w5 ⟨v2, Q2, rfl, h7, r2⟩
        clear P2 hsr
        obtain ⟨A2, c2, rfl, -, -⟩ := (r2.use h7).at
        have h8 := h7.alloc (.cells #[.int .i64 n, .slice A2 cls.length c2] 24)
        have P3 := PRH.out _ ((Ent.tail (Ent.tail (Ent.tail uT))).use h8) (.slice A2 cls.length c2) ((Ent.tail r2).use h8)
        have b0 := h8.cell 0
        have b1 := h8.cell 1
        clear h7
        go_wp2_with fail
        refine P3.mono ?_
        rintro e w6 ⟨rfl, hq⟩
        have h9 := St.through (ps := []) h8 hq
        clear P3 hq h8 b0 b1
        generalize w5.heap.size = F2 at *
        have AL := alike_walk W _ _ h9 n n (.slice A cls.length c) (.slice A2 cls.length c2) cls cls (Ent.tail (Ent.tail (Ent.tail hr))) (Ent.tail r2)
        rw [decide_eq_true ⟨rfl, rfl⟩] at AL
        have a0 : w6.cell? ⟨F0, 0, none⟩ = some (.int .i64 n) := (h9.pull 2).cell 0
        have a1 : w6.cell? ⟨F0, 1, none⟩ = some (.slice A cls.length c) := (h9.pull 2).cell 1
        have g0 : w6.cell? ⟨F2, 0, none⟩ = some (.int .i64 n) := h9.cell 0
        have g1 : w6.cell? ⟨F2, 1, none⟩ = some (.slice A2 cls.length c2) := h9.cell 1
        have d0 : ((0 : Int) == 0) = true := by simp
        have ds : ((mkB S).toList == (mkB S).toList) = true := by simp
        go_wp2_with (go_at_call 13; refine (no_walk _ _).mono ?_; rintro e w' ⟨rfl, rfl⟩)
        refine AL.mono ?_
        rintro e w' ⟨rfl, q, rfl⟩
        have h10 : SL.St W [Old W] _ := (SL.St.drewN (((h9.alloc (.cells #[.int .i64 n, .slice A cls.length c] 24)).alloc (.cells #[.int .i64 n, .slice A2 cls.length c2] 24)).drop.drop) q).drop.drop.drop
        generalize World.drewN _ q = w7 at h10 ⊢
        clear AL h9 a0 a1 g0 g1
        go_wp2_with (go_at_call 13; refine (no_walk _ _).mono ?_; rintro e w' ⟨rfl, rfl⟩)
        go_ret
        exact ⟨rfl, h10⟩
  · have hpr : printM n cls = ([], (checkM n cls).2) := by unfold printM; rw [if_pos hc]
    rw [hpr] at PR
    clear hpr
    have hm0 : ((checkM n cls).2 == 0) = false := by simp [hc]
    have hne : ((checkM n cls).2 != 0) = true := by simp [hc]
    have hcv := (checkM_vals n cls)
    generalize hge : (checkM n cls).2 = er at *
    change Calls _ _ _ _ fun e w' => e = .returned (.tuple #[.string ⟨#[]⟩, .int .i64 er]) ∧ SL.St w1 [Old w1] w' at PR
    go_wp2_with fail
    refine PR.mono ?_
    rintro e w2 ⟨rfl, hq⟩
    have h3 := St.through (ps := []) h2 hq
    clear PR hq h2 a0 a1
    have MW := may_walk W _ _ h3 n hn (.slice A cls.length c) cls (Ent.tail hr) hI n
    rw [hge, hm0, Bool.false_and] at MW
    clear hge
    have a0 : w2.cell? ⟨F0, 0, none⟩ = some (.int .i64 n) := h3.cell 0
    have a1 : w2.cell? ⟨F0, 1, none⟩ = some (.slice A cls.length c) := h3.cell 1
    have es : ((⟨#[]⟩ : ByteArray).toList == []) = true := by rw [ByteArray.toList_eq]; rfl
    go_wp2_with (go_at_call 13; refine (no_walk _ _).mono ?_; rintro e w' ⟨rfl, rfl⟩)
    refine MW.mono ?_
    rintro e w3 ⟨rfl, h5⟩
    go_wp2_with fail
    go_ret
    exact ⟨rfl, h5.drop⟩
end Go.Proofs.YtnmkdhoijdoccaaDoor
