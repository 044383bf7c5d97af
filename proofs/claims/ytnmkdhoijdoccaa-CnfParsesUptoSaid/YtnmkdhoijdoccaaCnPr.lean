/- The reference's Parse. -/
import Derived.Test.YtnmkdhoijdoccaaCnBg
import Derived.Test.YtnmkdhoijdoccaaCnWr
set_option linter.unusedVariables false
set_option linter.unusedSimpArgs false
namespace Go.Proofs.Ytnmkdhoijdoccaa
open Go Go.RowKit SL

theorem RR.frame {w0 w w' : World} {R : Nat} {s : Rst} {l l' : List HP} (h : RR w0 R s l w) (k : ∀ vc vo qs, SL.St w0 (Blk R (.cells (cellsR s vc vo) 97 (0, 0)) :: Ref vc qs :: Pool qs :: Arr (cInt .i64) 3 vo s.opn :: l) w → SL.St w0 (Blk R (.cells (cellsR s vc vo) 97 (0, 0)) :: Ref vc qs :: Pool qs :: Arr (cInt .i64) 3 vo s.opn :: l') w') : RR w0 R s l' w' := by
  obtain ⟨vc, vo, qs, hq, h⟩ := h
  exact ⟨vc, vo, qs, hq, k _ _ _ h⟩
theorem RR.st {w0 w : World} {R : Nat} {s : Rst} {l : List HP} (h : RR w0 R s l w) : ∃ X Y Z U, SL.St w0 (X :: Y :: Z :: U :: l) w := by
  obtain ⟨vc, vo, qs, hq, h⟩ := h
  exact ⟨_, _, _, _, h⟩
theorem lineM_nil {s : Rst} {w : List ByteArray} (h : w = [] ∨ w[0]? = some ⟨#[99]⟩) : lineM s w = (s, 0) := if_pos h

set_option maxRecDepth 100000 in
set_option maxHeartbeats 4000000 in
theorem rparse_walk (w0 w : World) (l : List HP) (h : SL.St w0 l w) (text : ByteArray) (hs : text.size ≤ 1048576) :
    Calls Try.prog 45 #[.string text] w fun e w' => ∃ v' P, e = .returned (.tuple #[.agg #[.int .i64 (parseM text).1, v'], .int .i64 (parseM text).2.2.1, .int .i64 (parseM text).2.2.2]) ∧ SL.St w0 (P :: l) w' ∧ Ent (P :: l) (Rd2 (cInt .i64) v' (parseM text).2.1) := by
  have hP : parseM text = if (linesM Rst.init 0 (linesB text)).2.2 ≠ 0 then (0, [], ((linesM Rst.init 0 (linesB text)).2.1 : Int), (linesM Rst.init 0 (linesB text)).2.2) else
    if (linesM Rst.init 0 (linesB text)).1.begun = false ∨ ((linesM Rst.init 0 (linesB text)).1.cls.length : Int) < (linesM Rst.init 0 (linesB text)).1.many ∨ (linesM Rst.init 0 (linesB text)).1.inner = true then (0, [], ((linesM Rst.init 0 (linesB text)).2.1 : Int) + 1, 3) else
    ((linesM Rst.init 0 (linesB text)).1.vars, (linesM Rst.init 0 (linesB text)).1.cls, 0, 0) := rfl
  generalize parseM text = PM at *
  obtain ⟨U, hU⟩ : ∃ U, U = linesM Rst.init 0 (linesB text) := ⟨_, rfl⟩
  rw [← hU] at hP
  have HP := Lib.hid hP; clear hP
  have HU := Lib.hid hU; clear hU
  have h1 := (h.alloc (.cells #[.int .i64 0, .slice none 0 0] 37)).alloc (.cells (cellsR Rst.init (.slice none 0 0) (.slice none 0 0)) 97)
  simp only [World.size_alloc] at h1
  have LW := rlines_walk w0 _ _ h1 text hs
  go_enter Try.func45, Try.ntmps45
  go_wp2_with fail
  refine LW.mono ?_
  rintro e w1 ⟨v1, rfl, h2⟩
  clear LW h1
  generalize w.heap.size = F at *
  have hLL := linesB_len text
  have hLS := Lib.hid (linesB_small text)
  generalize linesB text = LS at *
  obtain ⟨AL, cl, rfl, -, -⟩ := h2.rd
  have h3 : RR w0 (F + 1) Rst.init (Arr cStr 9 (.slice AL LS.length cl) LS :: Blk F (.cells #[.int .i64 0, .slice none 0 0] 37 (0, 0)) :: l) w1 :=
    ⟨_, _, [], rfl, (SL.St.ref_nil (SL.St.all_nil ((h2.sel [1]).rows_nil (cInt .i64) 3))).sel [3, 0, 1, 2]⟩
  clear h2
  go_wp2_with fail
  go_loopg [7] LS.length (fun k i wr => ∃ (j : Nat) (s : Rst), j ≤ LS.length ∧ k = LS.length - j ∧ i = .int .i64 j ∧ s.Inv ∧ U = linesM s j (LS.drop j) ∧ RR w0 (F + 1) s (Arr cStr 9 (.slice AL LS.length cl) LS :: Blk F (.cells #[.int .i64 0, .slice none 0 0] 37 (0, 0)) :: l) wr)
  case atStart => exact ⟨0, Rst.init, Nat.zero_le _, rfl, rfl, Rst.init_inv, HU.out, h3⟩
  case round =>
    clear h3 HU
    obtain ⟨j, s, hj, hgk, rfl, hinv, hL, hRR⟩ := hrel
    subst hgk
    have HL := Lib.hid hL; clear hL
    by_cases hlt : j < LS.length
    · obtain ⟨vc, vo, qs, hq, hst⟩ := hRR
      obtain ⟨gl, c', hv⟩ := (hst.pull 4).arr_form (by omega)
      obtain rfl : AL = some ⟨gl, 0, none⟩ := by injection hv
      clear hv
      have hcell := ((hst.pull 4).arr_cell1 rfl j _ (List.getElem?_eq_getElem hlt) _ rfl).1
      have hsm := hLS.out _ (List.getElem_mem hlt)
      have WW := rwords_walk w0 wr _ hst LS[j] (by omega)
      have HL2 := HL.out
      rw [List.drop_eq_getElem_cons hlt, linesM] at HL2
      replace HL2 := Lib.hid HL2
      clear HL
      generalize LS[j] = ln at *
      have hWL := Lib.hid (wordsB_len ln)
      generalize wordsB ln = ws at *
      go_wp2_with fail
      refine WW.mono ?_
      rintro e w2 ⟨v2, rfl, h4⟩
      clear WW hcell
      obtain ⟨A2, c2, rfl, -, -⟩ := h4.rd
      have hR2 : RR w0 (F + 1) s (Arr cStr 9 (.slice A2 ws.length c2) ws :: Arr cStr 9 (.slice (some ⟨gl, 0, none⟩) LS.length cl) LS :: Blk F (.cells #[.int .i64 0, .slice none 0 0] 37 (0, 0)) :: l) w2 := ⟨vc, vo, qs, hq, h4.sel [1, 2, 3, 4, 0]⟩
      have c5 : w2.cell? ⟨F + 1, 5, none⟩ = some (.bool s.begun) := (h4.pull 1).cell 5
      clear hst
      by_cases hn : ws = []
      · have HL3 := Lib.hid (show U = linesM s (j + 1) (LS.drop (j + 1)) from by rw [HL2.out, lineM_nil (.inl hn), if_neg (by simp)])
        subst hn
        clear HL2
        go_wp2_with fail
        go_roundg (LS.length - (j + 1))
        case measure => omega
        case rel => exact ⟨j + 1, s, by omega, rfl, by go_num, hinv, HL3.out, hR2.frame fun _ _ _ h => h.sel [0, 1, 2, 3] 1⟩
      obtain ⟨a, tl, rfl⟩ : ∃ a tl, ws = a :: tl := by
        cases ws with
        | nil => exact absurd rfl hn
        | cons a tl => exact ⟨a, tl, rfl⟩
      clear hn
      obtain ⟨gw, c', hv⟩ := h4.arr_form (by simp)
      obtain rfl : A2 = some ⟨gw, 0, none⟩ := by injection hv
      clear hv
      have q0 := (h4.arr_cell1 rfl 0 a rfl _ rfl).1
      have ha := str_eq a [99]
      change (a.toList == [99]) = decide (a = ⟨#[99]⟩) at ha
      have dl : (((a :: tl).length : Int) == 0) = false := by rw [beq_eq_false_iff_ne]; simp only [List.length_cons]; omega
      by_cases hc : a = ⟨#[99]⟩
      · have HL3 := Lib.hid (show U = linesM s (j + 1) (LS.drop (j + 1)) from by rw [HL2.out, lineM_nil (.inr (by rw [hc]; rfl)), if_neg (by simp)])
        rw [decide_eq_true hc] at ha
        clear HL2 hc
        go_wp2_with fail
        go_roundg (LS.length - (j + 1))
        case measure => omega
        case rel => exact ⟨j + 1, s, by omega, rfl, by go_num, hinv, HL3.out, hR2.frame fun _ _ _ h => h.sel [0, 1, 2, 3] 1⟩
      rw [decide_eq_false hc] at ha
      have hlm : lineM s (a :: tl) = if s.begun = false then (headS s (headM (a :: tl)), (headM (a :: tl)).1) else wordsM s (a :: tl) := if_neg (by rintro (h | h); · cases h
                                                                                                                                                    · injection h with h; exact hc h)
      have hw0 : 0 < (a :: tl).length := by simp
      clear hc h4
      generalize hWS : a :: tl = ws at *
      have HWS := Lib.hid hWS; clear hWS
      cases hbg : s.begun with
      | false =>
        rw [hbg] at c5
        rw [if_pos hbg] at hlm
        have hin2 : (headS s (headM ws)).Inv := by
          have := lineM_inv hinv ws
          rw [hlm] at this; exact this
        rw [hlm] at HL2
        clear hlm
        have BW := begin_walk w0 w2 _ (F + 1) s _ ws hR2
        have HL3 := HL2.out
        simp only at HL3
        replace HL3 := Lib.hid HL3
        clear HL2 hR2
        generalize headS s (headM ws) = s' at *
        generalize (headM ws).1 = er at *
        go_wp2_with fail
        refine BW.mono ?_
        rintro e w3 ⟨rfl, hR3⟩
        clear BW c5 q0
        by_cases e0 : er = 0
        · have HL4 := Lib.hid (show U = linesM s' (j + 1) (LS.drop (j + 1)) from by rw [HL3.out, if_neg (by simp [e0])])
          have d0 : (er != 0) = false := by simp [e0]
          subst e0
          clear HL3
          go_wp2_with fail
          go_roundg (LS.length - (j + 1))
          case measure => omega
          case rel => exact ⟨j + 1, s', by omega, rfl, by go_num, hin2, HL4.out, hR3.frame fun _ _ _ h => h.sel [0, 1, 2, 3] 1⟩
        · have HL4 := Lib.hid (show U = (s', j + 1, er) from by rw [HL3.out, if_pos e0])
          have d0 : (er != 0) = true := by simp [e0]
          have HP2 := Lib.hid (show PM = (0, [], ((j + 1 : Nat) : Int), er) from by rw [HP.out, HL4.out, if_pos e0])
          clear HL3 HL4 HP e0
          obtain ⟨X, Y, Z, T4, h5⟩ := hR3.st
          clear hR3
          have hs0 := h5.pull 6
          have hs := (hs0.set 0 (.int .i64 0)).set 1 (.slice none 0 0)
          have k0 := hs0.cell 0
          have k1 := hs0.cell 1
          have kf0 := hs0.free 0
          have kf1 := hs0.free 1
          go_wp2_with fail
          generalize World.setCell _ _ _ = wz at hs ⊢
          have b0 := hs.cell 0
          have b1 := hs.cell 1
          refine bodyPost_ret (v := .tuple #[.agg #[.int .i64 0, .slice none 0 0], .int .i64 ((j : Int) + 1), .int .i64 er]) (by simp [results, Try.results45, go_sem, b0, b1]) rfl ⟨.slice none 0 0, _, by rw [HP2.out] <;> simp, (hs.sel [] 7).nil2 (cInt .i64) 3 23, ?_⟩
          rw [HP2.out]
          exact Ent.rd2
      | true =>
        rw [hbg] at c5
        rw [if_neg (by rw [hbg]; decide)] at hlm
        rw [hlm] at HL2
        clear hlm
        have HL3 := HL2.out
        replace HL3 := Lib.hid HL3
        clear HL2
        have hok := hinv.ok
        have hwl : ws.length ≤ 1048577 := by have := hWL.out; omega
        go_wp2_with fail
        clear c5
        go_loopg [10] ws.length (fun k i wr => ∃ (t : Nat) (s' : Rst), t ≤ ws.length ∧ k = ws.length - t ∧ i = .int .i64 t ∧ s'.Ok ∧ s'.begun = true ∧ wordsM s ws = wordsM s' (ws.drop t) ∧ RR w0 (F + 1) s' (Arr cStr 9 (.slice (some ⟨gw, 0, none⟩) ws.length c2) ws :: Arr cStr 9 (.slice (some ⟨gl, 0, none⟩) LS.length cl) LS :: Blk F (.cells #[.int .i64 0, .slice none 0 0] 37 (0, 0)) :: l) wr)
        case atStart => exact ⟨0, s, Nat.zero_le _, rfl, rfl, hok, hbg, rfl, hR2⟩
        case round =>
          clear hR2 q0 hok
          obtain ⟨t, s', ht, hgk, rfl, hok, hb2, hM, hR3⟩ := hrel
          subst hgk
          by_cases hlt2 : t < ws.length
          · obtain ⟨X, Y, Z, T4, h5⟩ := hR3.st
            have hcell := ((h5.pull 4).arr_cell1 rfl t _ (List.getElem?_eq_getElem hlt2) _ rfl).1
            have WD := rword_walk w0 wr _ (F + 1) s' hok hR3 ws[t]
            have hok2 := wordM_ok hok ws[t]
            have hb3 := wordM_begun s' ws[t]
            rw [List.drop_eq_getElem_cons hlt2, wordsM] at hM
            have HM := Lib.hid hM; clear hM
            generalize ws[t] = x at *
            generalize wordM s' x = r at *
            obtain ⟨s2, er⟩ := r
            simp only at hok2 hb3 WD
            have HM2 := HM.out
            simp only at HM2
            replace HM2 := Lib.hid HM2
            clear HM h5 hR3
            go_wp2_with fail
            refine WD.mono ?_
            rintro e w3 ⟨rfl, hR4⟩
            clear WD hcell
            by_cases e0 : er = 0
            · have HM3 := Lib.hid (show wordsM s ws = wordsM s2 (ws.drop (t + 1)) from by rw [HM2.out, if_neg (by simp [e0])])
              subst e0
              clear HM2
              go_wp2_with fail
              go_roundg (ws.length - (t + 1))
              case measure => omega
              case rel => exact ⟨t + 1, s2, by omega, rfl, by go_num, hok2, by rw [hb3]; exact hb2, HM3.out, hR4⟩
            · have HL4 := Lib.hid (show U = (s2, j + 1, er) from by
                rw [HL3.out, HM2.out, if_pos e0]
                exact if_pos e0)
              have d0 : (er != 0) = true := by simp [e0]
              have HP2 := Lib.hid (show PM = (0, [], ((j + 1 : Nat) : Int), er) from by rw [HP.out, HL4.out]; exact if_pos e0)
              clear HL3 HL4 HP HM2 e0
              obtain ⟨X, Y, Z, T4, h5⟩ := hR4.st
              clear hR4
              have hs0 := h5.pull 6
              have hs := (hs0.set 0 (.int .i64 0)).set 1 (.slice none 0 0)
              have k0 := hs0.cell 0
              have k1 := hs0.cell 1
              have kf0 := hs0.free 0
              have kf1 := hs0.free 1
              go_wp2_with fail
              generalize World.setCell _ _ _ = wz at hs ⊢
              have b0 := hs.cell 0
              have b1 := hs.cell 1
              refine bodyPost_ret (v := .tuple #[.agg #[.int .i64 0, .slice none 0 0], .int .i64 ((j : Int) + 1), .int .i64 er]) (by simp [results, Try.results45, go_sem, b0, b1]) rfl ⟨.slice none 0 0, _, by rw [HP2.out] <;> simp, (hs.sel [] 7).nil2 (cInt .i64) 3 23, ?_⟩
              rw [HP2.out]
              exact Ent.rd2
          · obtain rfl : t = ws.length := by omega
            have HM2 := Lib.hid (show wordsM s ws = (s', 0) from by rw [hM, List.drop_length]; rfl)
            clear hM
            have HL4 := Lib.hid (show U = linesM s' (j + 1) (LS.drop (j + 1)) from by rw [HL3.out, HM2.out, if_neg (by simp)])
            clear HL3 HM2
            go_wp2_with fail
            go_roundg (LS.length - (j + 1))
            case measure => omega
            case rel => exact ⟨j + 1, s', by omega, rfl, by go_num, ⟨hok, fun e => by rw [hb2] at e; cases e⟩, HL4.out, hR3.frame fun _ _ _ h => h.sel [0, 1, 2, 3] 1⟩
    · obtain rfl : j = LS.length := by omega
      have HU2 := Lib.hid (show U = (s, LS.length, 0) from by rw [HL.out, List.drop_length]; rfl)
      clear HL
      obtain ⟨vc, vo, qs, hq, hst⟩ := hRR
      obtain ⟨Ac, cc, rfl, -⟩ := SL.St.ref_form (hst.pull 1)
      have hql : s.cls.length = qs.length := by rw [← hq, List.length_map]
      have hP3 : PM = if s.begun = false ∨ (qs.length : Int) < s.many ∨ s.inner = true then (0, [], (LS.length : Int) + 1, 3) else (s.vars, s.cls, 0, 0) := by
        rw [HP.out, HU2.out, if_neg (by simp), hql]
      have HP3 := Lib.hid hP3
      clear HP HU2 hP3 hql
      have HQ := Lib.hid hq; clear hq
      obtain ⟨V, C, bg, M, Lt, O, inn⟩ := s
      simp only at HP3 HQ hst
      unfold cellsR at hst
      simp only at hst
      have c0 := hst.cell 0
      have c5 := hst.cell 5
      have c6 := hst.cell 6
      have c1 := hst.cell 1
      have c3 := hst.cell 3
      have HP4 := HP3.out
      by_cases hbad : bg = false ∨ (qs.length : Int) < M ∨ inn = true
      · rw [if_pos hbad] at HP4
        replace HP4 := Lib.hid HP4
        clear HP3
        cases bg with
        | false =>
          clear hbad
          go_wp2_with fail
          go_quiet (fail)
          have h5 := hst.drewN nq
          generalize World.drewN _ nq = wq at h5 ⊢
          clear hst c0 c1 c3 c5 c6
          have hs0 := h5.pull 5
          have hs := (hs0.set 0 (.int .i64 0)).set 1 (.slice none 0 0)
          have k0 := hs0.cell 0
          have k1 := hs0.cell 1
          have kf0 := hs0.free 0
          have kf1 := hs0.free 1
          go_wp2_with fail
          generalize World.setCell _ _ _ = wz at hs ⊢
          have b0 := hs.cell 0
          have b1 := hs.cell 1
          refine bodyPost_ret (v := .tuple #[.agg #[.int .i64 0, .slice none 0 0], .int .i64 ((LS.length : Int) + 1), .int .i64 3]) (by simp [results, Try.results45, go_sem, b0, b1]) rfl ⟨.slice none 0 0, _, by rw [HP4.out] <;> simp, (hs.sel [] 6).nil2 (cInt .i64) 3 23, ?_⟩
          rw [HP4.out]
          exact Ent.rd2
        | true =>
          cases inn with
          | true =>
            clear hbad
            go_wp2_with fail
            go_quiet (fail)
            have h5 := hst.drewN nq
            generalize World.drewN _ nq = wq at h5 ⊢
            clear hst c0 c1 c3 c5 c6
            have hs0 := h5.pull 5
            have hs := (hs0.set 0 (.int .i64 0)).set 1 (.slice none 0 0)
            have k0 := hs0.cell 0
            have k1 := hs0.cell 1
            have kf0 := hs0.free 0
            have kf1 := hs0.free 1
            go_wp2_with fail
            generalize World.setCell _ _ _ = wz at hs ⊢
            have b0 := hs.cell 0
            have b1 := hs.cell 1
            refine bodyPost_ret (v := .tuple #[.agg #[.int .i64 0, .slice none 0 0], .int .i64 ((LS.length : Int) + 1), .int .i64 3]) (by simp [results, Try.results45, go_sem, b0, b1]) rfl ⟨.slice none 0 0, _, by rw [HP4.out] <;> simp, (hs.sel [] 6).nil2 (cInt .i64) 3 23, ?_⟩
            rw [HP4.out]
            exact Ent.rd2
          | false =>
            have d0 : decide ((qs.length : Int) < M) = true := decide_eq_true (by
              rcases hbad with h | h | h
              · cases h
              · exact h
              · cases h)
            clear hbad
            go_wp2_with fail
            go_quiet (fail)
            have h5 := hst.drewN nq
            generalize World.drewN _ nq = wq at h5 ⊢
            clear hst c0 c1 c3 c5 c6
            have hs0 := h5.pull 5
            have hs := (hs0.set 0 (.int .i64 0)).set 1 (.slice none 0 0)
            have k0 := hs0.cell 0
            have k1 := hs0.cell 1
            have kf0 := hs0.free 0
            have kf1 := hs0.free 1
            go_wp2_with fail
            generalize World.setCell _ _ _ = wz at hs ⊢
            have b0 := hs.cell 0
            have b1 := hs.cell 1
            refine bodyPost_ret (v := .tuple #[.agg #[.int .i64 0, .slice none 0 0], .int .i64 ((LS.length : Int) + 1), .int .i64 3]) (by simp [results, Try.results45, go_sem, b0, b1]) rfl ⟨.slice none 0 0, _, by rw [HP4.out] <;> simp, (hs.sel [] 6).nil2 (cInt .i64) 3 23, ?_⟩
            rw [HP4.out]
            exact Ent.rd2
      · rw [if_neg hbad] at HP4
        replace HP4 := Lib.hid HP4
        obtain rfl : bg = true := by
          cases bg with
          | true => rfl
          | false => exact absurd (.inl rfl) hbad
        obtain rfl : inn = false := by
          cases inn with
          | false => rfl
          | true => exact absurd (.inr (.inr rfl)) hbad
        have d0 : decide ((qs.length : Int) < M) = false := decide_eq_false (fun h => hbad (.inr (.inl h)))
        clear hbad HP3
        go_wp2_with fail
        go_quiet (fail)
        have h5 := hst.drewN nq
        generalize World.drewN _ nq = wq at h5 ⊢
        clear hst c0 c1 c3 c5 c6
        have c0 := h5.cell 0
        have c1 := h5.cell 1
        have hs0 := h5.pull 5
        have hs := (hs0.set 0 (.int .i64 V)).set 1 (.slice Ac qs.length cc)
        have k0 := hs0.cell 0
        have k1 := hs0.cell 1
        have kf0 := hs0.free 0
        have kf1 := hs0.free 1
        go_wp2_with fail
        generalize World.setCell _ _ _ = wz at hs ⊢
        have b0 := hs.cell 0
        have b1 := hs.cell 1
        refine bodyPost_ret (v := .tuple #[.agg #[.int .i64 V, .slice Ac qs.length cc], .int .i64 0, .int .i64 0]) (by simp [results, Try.results45, go_sem, b0, b1]) rfl ⟨_, _, by rw [HP4.out], SL.St.fold (l := [_, _]) (hs.sel [2, 3] 4), ?_⟩
        rw [HP4.out]
        exact fun w0 w h => by
          have h6 := SL.St.ref_rd2 (SL.St.flat h) (fun p hp => hp)
          rw [HQ.out] at h6
          exact h6
end Go.Proofs.Ytnmkdhoijdoccaa
