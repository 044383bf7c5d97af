/- The program's Parse. -/
import Derived.Test.YtnmkdhoijdoccaaDoorCnHd
import Derived.WalkMore
set_option linter.unusedVariables false
set_option linter.unusedSimpArgs false
namespace Go.Proofs.YtnmkdhoijdoccaaDoor
open Go Go.RowKit SL

theorem RP.frame {w0 w w' : World} {R : Nat} {s : Rst} {l l' : List HP} (h : RP w0 R s l w) (k : ∀ vc vo qs, SL.St w0 (Blk R (.cells (cellsP s vc vo) 92 (0, 0)) :: Ref vc qs :: Pool qs :: Arr (cInt .i64) 3 vo s.opn :: l) w → SL.St w0 (Blk R (.cells (cellsP s vc vo) 92 (0, 0)) :: Ref vc qs :: Pool qs :: Arr (cInt .i64) 3 vo s.opn :: l') w') : RP w0 R s l' w' := by
  obtain ⟨vc, vo, qs, hq, h⟩ := h
  exact ⟨vc, vo, qs, hq, k _ _ _ h⟩
theorem RP.st {w0 w : World} {R : Nat} {s : Rst} {l : List HP} (h : RP w0 R s l w) : ∃ X Y Z U, SL.St w0 (X :: Y :: Z :: U :: l) w := by
  obtain ⟨vc, vo, qs, hq, h⟩ := h
  exact ⟨_, _, _, _, h⟩
theorem all_str (xs : List ByteArray) : cStr.all xs = xs.map Value.string := by
  induction xs with
  | nil => rfl
  | cons x xs ih => show [Value.string x] ++ cStr.all xs = _; rw [ih]; rfl
/-- A row that a call has laid. -/
theorem St.fresh_row {α : Type} {d : Cd α} {e : TypeId} {w0 w w' : World} {l : List HP} {v : Value} {xs : List α} (h : SL.St w0 l w) (ho : w'.ownsRow w.heap.size e d.sz v xs.length (d.all xs)) (hb : Below w.heap.size w w') : SL.St w0 (Arr d e v xs :: l) w' := by
  have h1 : SL.St w0 (Row e d.sz (.slice none 0 0) 0 [] :: l) w := by
    have := h.rows_nil d e
    exact this
  refine SL.St.row_step h1 ⟨ho.1, ho.2.imp id fun ⟨g, cap, cur, a, b, rest⟩ => ⟨g, cap, cur, a, Nat.zero_le _, rest⟩⟩ ⟨hb.os, hb.tape, hb.output, hb.size, fun i hi _ => hb.block i hi⟩ (.inr fun k hk => (ho.lt k hk).1)

set_option maxRecDepth 100000 in
theorem clo_walk (W : World) (x : Nat) (hx : x ≤ 1114111) :
    Calls Tryd.prog 50 #[.int .i32 x] W fun e w' => e = .returned (.bool (sepR x)) ∧ ∃ q, w' = W.drewN q := by
  have e1 : (x == 32) = (((x : Nat) : Int) == 32) := by rw [Bool.eq_iff_iff, beq_iff_eq, beq_iff_eq]; omega
  have e2 : (x == 9) = (((x : Nat) : Int) == 9) := by rw [Bool.eq_iff_iff, beq_iff_eq, beq_iff_eq]; omega
  have e3 : (x == 13) = (((x : Nat) : Int) == 13) := by rw [Bool.eq_iff_iff, beq_iff_eq, beq_iff_eq]; omega
  have hS := Lib.hid (show sepR x = (((((x : Nat) : Int) == 32) || (((x : Nat) : Int) == 9)) || (((x : Nat) : Int) == 13)) from by unfold sepR; rw [e1, e2, e3])
  clear e1 e2 e3
  cases b1 : (((x : Nat) : Int) == 32) <;> cases b2 : (((x : Nat) : Int) == 9) <;> cases b3 : (((x : Nat) : Int) == 13)
  all_goals
    go_enter Tryd.func50, Tryd.ntmps50
    go_wp2_with fail
    go_ret
    exact ⟨by rw [hS.out, b1, b2, b3]; rfl, 0, rfl⟩
theorem fields_walk (w0 w : World) (l : List HP) (h : SL.St w0 l w) (s : ByteArray) (hs : s.size ≤ 1073741824) :
    Calls Tryd.prog 49 #[.string s, .func (.func 50) #[] #[]] w fun e w' => ∃ v', e = .returned v' ∧ SL.St w0 (Arr cStr 9 v' (wordsB s) :: l) w' := by
  refine (strings_FieldsFunc_runes 50 #[] (enters_of Tryd.func50 (by kernel_rfl) rfl) sepR s w (by omega) (fun W x hx _ => clo_walk W x hx)).mono ?_
  rintro e w' ⟨A, rfl, hA, ho, hb⟩
  rw [fields_words] at ho ⊢
  exact ⟨_, rfl, St.fresh_row h (by rw [all_str]; exact ho) hb⟩

set_option maxRecDepth 100000 in
set_option maxHeartbeats 4000000 in
theorem parse_walk (w0 w : World) (l : List HP) (h : SL.St w0 l w) (text : ByteArray) (hs : text.size ≤ 1073741824) (mx : Int) (hmx : Ent l (fun w => w.cell? ⟨0, 0, none⟩ = some (.int .i64 mx))) :
    Calls Tryd.prog 30 #[.string text] w fun e w' => ∃ v' P, e = .returned (.tuple #[.agg #[.int .i64 (parseM text).1, v'], .int .i64 (parseM text).2.2.1, .int .i64 (parseM text).2.2.2]) ∧ SL.St w0 (P :: l) w' ∧ Ent (P :: l) (Rd2 (cInt .i64) v' (parseM text).2.1) := by
  have hP : parseM text = if (linesM Rst.init 0 (linesB text)).2.2 ≠ 0 then (0, [], ((linesM Rst.init 0 (linesB text)).2.1 : Int), (linesM Rst.init 0 (linesB text)).2.2) else
    if (linesM Rst.init 0 (linesB text)).1.begun = false ∨ ((linesM Rst.init 0 (linesB text)).1.cls.length : Int) < (linesM Rst.init 0 (linesB text)).1.many ∨ (linesM Rst.init 0 (linesB text)).1.inner = true then (0, [], ((linesM Rst.init 0 (linesB text)).2.1 : Int) + 1, 3) else
    ((linesM Rst.init 0 (linesB text)).1.vars, (linesM Rst.init 0 (linesB text)).1.cls, 0, 0) := rfl
  generalize parseM text = PM at *
  obtain ⟨U, hU⟩ : ∃ U, U = linesM Rst.init 0 (linesB text) := ⟨_, rfl⟩
  rw [← hU] at hP
  have HP := Lib.hid hP; clear hP
  have HU := Lib.hid hU; clear hU
  have h1 := (h.alloc (.cells #[.int .i64 0, .slice none 0 0] 24)).alloc (.cells (cellsP Rst.init (.slice none 0 0) (.slice none 0 0)) 92)
  simp only [World.size_alloc] at h1
  have h3 : RP w0 (w.heap.size + 1) Rst.init (Blk w.heap.size (.cells #[.int .i64 0, .slice none 0 0] 24 (0, 0)) :: l) _ :=
    ⟨_, _, [], rfl, (SL.St.ref_nil (SL.St.all_nil (h1.rows_nil (cInt .i64) 3))).sel [3, 0, 1, 2]⟩
  clear h1
  go_enter Tryd.func30, Tryd.ntmps30
  go_wp2_with fail
  go_step3
  go_wp2_with fail
  go_step3
  go_wp2_with fail
  go_loopg [0, 6] (text.size + 1) (fun k tv av wr => ∃ (n : Nat) (u : ByteArray) (s : Rst), tv = .string u ∧ av = .int .i64 n ∧ k = u.size + 1 ∧ n + u.size ≤ text.size ∧ s.Inv ∧ U = linesM s n (linesB u) ∧ RP w0 (w.heap.size + 1) s (Blk w.heap.size (.cells #[.int .i64 0, .slice none 0 0] 24 (0, 0)) :: l) wr)
  case atStart => exact ⟨0, text, Rst.init, rfl, rfl, rfl, by omega, Rst.init_inv, HU.out, h3⟩
  case round =>
    clear h3 HU
    generalize w.heap.size = F at *
    obtain ⟨n, u, s, rfl, rfl, hgk, hnu, hinv, hL, hRR⟩ := hrel
    subst hgk
    have HL := Lib.hid hL; clear hL
    have hte : u.toList = u.data.toList := ByteArray.toList_eq u
    by_cases hu : u.size = 0
    · have hnil : u.data.toList = [] := List.eq_nil_of_length_eq_zero (by rw [← Lib.size_eq]; exact hu)
      have e0 : (u.toList == []) = true := by rw [hte, hnil]; rfl
      have e0' : (u.toList != []) = false := by rw [hte, hnil]; rfl
      have HU2 := Lib.hid (show U = (s, n, 0) from by rw [HL.out, linesB_nil u hu]; rfl)
      clear HL hte hnil
      obtain ⟨vc, vo, qs, hq, hst⟩ := hRR
      obtain ⟨Ac, cc, rfl, -⟩ := SL.St.ref_form (hst.pull 1)
      have hql : s.cls.length = qs.length := by rw [← hq, List.length_map]
      have hP3 : PM = if s.begun = false ∨ (qs.length : Int) < s.many ∨ s.inner = true then (0, [], (n : Int) + 1, 3) else (s.vars, s.cls, 0, 0) := by
        rw [HP.out, HU2.out, if_neg (by simp), hql]
      have HP3 := Lib.hid hP3
      clear HP HU2 hP3 hql
      have HQ := Lib.hid hq; clear hq
      obtain ⟨V, C, bg, M, Lt, O, inn⟩ := s
      simp only at HP3 HQ hst
      unfold cellsP at hst
      simp only at hst
      have c0 := hst.cell 0
      have c5 := hst.cell 2
      have c6 := hst.cell 6
      have c1 := hst.cell 1
      have c3 := hst.cell 3
      have HP4 := HP3.out
      by_cases hbad : bg = false ∨ (qs.length : Int) < M ∨ inn = true
      · rw [if_pos hbad] at HP4
        replace HP4 := Lib.hid HP4
        clear HP3
        cases bg with
        | false =>
          clear hbad
          go_wp2_with fail
          go_quiet (fail)
          have h5 := hst.drewN nq
          generalize World.drewN _ nq = wq at h5 ⊢
          clear hst c0 c1 c3 c5 c6
          have hs0 := h5.pull 4
          have hs := (hs0.set 0 (.int .i64 0)).set 1 (.slice none 0 0)
          have k0 := hs0.cell 0
          have k1 := hs0.cell 1
          have kf0 := hs0.free 0
          have kf1 := hs0.free 1
          go_wp2_with fail
          generalize World.setCell _ _ _ = wz at hs ⊢
          have b0 := hs.cell 0
          have b1 := hs.cell 1
          try rw [Exit.noGoto_ret]
          refine bodyPost_ret (v := .tuple #[.agg #[.int .i64 0, .slice none 0 0], .int .i64 ((n : Int) + 1), .int .i64 3]) (by simp [results, Tryd.results30, go_sem, b0, b1]) rfl ⟨.slice none 0 0, _, by rw [HP4.out] <;> simp, (hs.sel [] 5).nil2 (cInt .i64) 3 51, ?_⟩
          rw [HP4.out]
          exact Ent.rd2
        | true =>
          by_cases hlen : (qs.length : Int) < M
          · have d0 : decide ((qs.length : Int) < M) = true := decide_eq_true hlen
            clear hbad hlen
            go_wp2_with fail
            go_quiet (fail)
            have h5 := hst.drewN nq
            generalize World.drewN _ nq = wq at h5 ⊢
            clear hst c0 c1 c3 c5 c6
            have hs0 := h5.pull 4
            have hs := (hs0.set 0 (.int .i64 0)).set 1 (.slice none 0 0)
            have k0 := hs0.cell 0
            have k1 := hs0.cell 1
            have kf0 := hs0.free 0
            have kf1 := hs0.free 1
            go_wp2_with fail
            generalize World.setCell _ _ _ = wz at hs ⊢
            have b0 := hs.cell 0
            have b1 := hs.cell 1
            try rw [Exit.noGoto_ret]
            refine bodyPost_ret (v := .tuple #[.agg #[.int .i64 0, .slice none 0 0], .int .i64 ((n : Int) + 1), .int .i64 3]) (by simp [results, Tryd.results30, go_sem, b0, b1]) rfl ⟨.slice none 0 0, _, by rw [HP4.out] <;> simp, (hs.sel [] 5).nil2 (cInt .i64) 3 51, ?_⟩
            rw [HP4.out]
            exact Ent.rd2
          · obtain rfl : inn = true := by
              rcases hbad with h | h | h
              · cases h
              · exact absurd h hlen
              · exact h
            have d0 : decide ((qs.length : Int) < M) = false := decide_eq_false hlen
            clear hbad hlen
            go_wp2_with fail
            go_quiet (fail)
            have h5 := hst.drewN nq
            generalize World.drewN _ nq = wq at h5 ⊢
            clear hst c0 c1 c3 c5 c6
            have hs0 := h5.pull 4
            have hs := (hs0.set 0 (.int .i64 0)).set 1 (.slice none 0 0)
            have k0 := hs0.cell 0
            have k1 := hs0.cell 1
            have kf0 := hs0.free 0
            have kf1 := hs0.free 1
            go_wp2_with fail
            generalize World.setCell _ _ _ = wz at hs ⊢
            have b0 := hs.cell 0
            have b1 := hs.cell 1
            try rw [Exit.noGoto_ret]
            refine bodyPost_ret (v := .tuple #[.agg #[.int .i64 0, .slice none 0 0], .int .i64 ((n : Int) + 1), .int .i64 3]) (by simp [results, Tryd.results30, go_sem, b0, b1]) rfl ⟨.slice none 0 0, _, by rw [HP4.out] <;> simp, (hs.sel [] 5).nil2 (cInt .i64) 3 51, ?_⟩
            rw [HP4.out]
            exact Ent.rd2
      · rw [if_neg hbad] at HP4
        replace HP4 := Lib.hid HP4
        obtain rfl : bg = true := by
          cases bg with
          | true => rfl
          | false => exact absurd (.inl rfl) hbad
        obtain rfl : inn = false := by
          cases inn with
          | false => rfl
          | true => exact absurd (.inr (.inr rfl)) hbad
        have d0 : decide ((qs.length : Int) < M) = false := decide_eq_false (fun h => hbad (.inr (.inl h)))
        clear hbad HP3
        go_wp2_with fail
        go_quiet (fail)
        have h5 := hst.drewN nq
        generalize World.drewN _ nq = wq at h5 ⊢
        clear hst c0 c1 c3 c5 c6
        have c0 := h5.cell 0
        have c1 := h5.cell 1
        have hs0 := h5.pull 4
        have hs := (hs0.set 0 (.int .i64 V)).set 1 (.slice Ac qs.length cc)
        have k0 := hs0.cell 0
        have k1 := hs0.cell 1
        have kf0 := hs0.free 0
        have kf1 := hs0.free 1
        go_wp2_with fail
        generalize World.setCell _ _ _ = wz at hs ⊢
        have b0 := hs.cell 0
        have b1 := hs.cell 1
        try rw [Exit.noGoto_ret]
        refine bodyPost_ret (v := .tuple #[.agg #[.int .i64 V, .slice Ac qs.length cc], .int .i64 0, .int .i64 0]) (by simp [results, Tryd.results30, go_sem, b0, b1]) rfl ⟨_, _, by rw [HP4.out], SL.St.fold (l := [_, _]) (hs.sel [2, 3] 3), ?_⟩
        rw [HP4.out]
        exact fun w0 w h => by
          have h6 := SL.St.ref_rd2 (SL.St.flat h) (fun p hp => hp)
          rw [HQ.out] at h6
          exact h6
    · have hne : u.data.toList ≠ [] := fun e => hu (by rw [Lib.size_eq, e]; rfl)
      have e0 : (u.toList == []) = false := by rw [hte]; simpa using hne
      have e0' : (u.toList != []) = true := by rw [bne, e0]; rfl
      obtain ⟨X0, Y0, Z0, T0, hst0⟩ := hRR.st
      have CC := strings_Cut u ⟨#[10]⟩ mx wr (by omega) ((Ent.tail (Ent.tail (Ent.tail (Ent.tail (Ent.tail hmx))))).use hst0)
      rw [show (⟨#[10]⟩ : ByteArray).data.toList = [10] from rfl] at CC
      change Calls _ _ _ _ fun e w' => e = .returned (.tuple #[.string (mkB (Lib.cut u.data.toList [10]).1), .string (mkB (Lib.cut u.data.toList [10]).2.1), .bool (Lib.cut u.data.toList [10]).2.2]) ∧ ∃ n, w' = wr.drewN n at CC
      have hcl := cut_len u.data.toList
      have hc1 : (mkB (Lib.cut u.data.toList [10]).1).size ≤ u.size := by rw [Lib.size_eq, Lib.size_eq u, data_mkB]; exact hcl.1
      have hc2 : (mkB (Lib.cut u.data.toList [10]).2.1).size < u.size := by rw [Lib.size_eq, Lib.size_eq u, data_mkB]; exact hcl.2 hne
      have HL2 := HL.out
      rw [linesB_cut u hu, linesM] at HL2
      replace HL2 := Lib.hid HL2
      generalize mkB (Lib.cut u.data.toList [10]).1 = ln at *
      generalize mkB (Lib.cut u.data.toList [10]).2.1 = rest at *
      generalize (Lib.cut u.data.toList [10]).2.2 = fnd at *
      have hWL := Lib.hid (wordsB_len ln)
      have FF := fun (w' : World) (l' : List SL.HP) (h : SL.St w0 l' w') => fields_walk w0 w' l' h ln (by omega)
      generalize wordsB ln = ws at *
      clear HL hst0 hcl hne hte
      go_wp2_with fail
      refine CC.mono ?_
      rintro e w' ⟨rfl, qd, hw⟩
      rw [hw]
      clear hw CC e0 e0'
      have hR1 : RP w0 (F + 1) s (Blk F (.cells #[.int .i64 0, .slice none 0 0] 24 (0, 0)) :: l) (wr.drewN qd) := hRR.frame fun _ _ _ h => h.drewN qd
      generalize wr.drewN qd = wc at hR1 ⊢
      clear hRR
      obtain ⟨vc, vo, qs, hq, hst⟩ := hR1
      have WW := FF _ _ hst
      clear FF
      go_wp2_with fail
      refine WW.mono ?_
      rintro e w2 ⟨v2, rfl, h4⟩
      clear WW
      obtain ⟨A2, c2, rfl, -, -⟩ := h4.rd
      have hR2 : RP w0 (F + 1) s (Arr cStr 9 (.slice A2 ws.length c2) ws :: Blk F (.cells #[.int .i64 0, .slice none 0 0] 24 (0, 0)) :: l) w2 := ⟨vc, vo, qs, hq, h4.sel [1, 2, 3, 4, 0]⟩
      have c5 : w2.cell? ⟨F + 1, 2, none⟩ = some (.bool s.begun) := (h4.pull 1).cell 2
      clear hst
      by_cases hn : ws = []
      · have HL3 := Lib.hid (show U = linesM s (n + 1) (linesB rest) from by rw [HL2.out, lineM_nil (.inl hn), if_neg (by simp)])
        subst hn
        clear HL2
        go_wp2_with fail
        go_roundg (rest.size + 1)
        case measure => omega
        case rel => exact ⟨n + 1, rest, s, rfl, by go_num, rfl, by omega, hinv, HL3.out, hR2.frame fun _ _ _ h => h.sel [0, 1, 2, 3] 1⟩
      obtain ⟨a, tl, rfl⟩ : ∃ a tl, ws = a :: tl := by
        cases ws with
        | nil => exact absurd rfl hn
        | cons a tl => exact ⟨a, tl, rfl⟩
      clear hn
      obtain ⟨gw, c', hv⟩ := h4.arr_form (by simp)
      obtain rfl : A2 = some ⟨gw, 0, none⟩ := by injection hv
      clear hv
      have q0 := (h4.arr_cell1 rfl 0 a rfl _ rfl).1
      have ha := str_eq a [99]
      change (a.toList == [99]) = decide (a = ⟨#[99]⟩) at ha
      have dl : (((a :: tl).length : Int) == 0) = false := by rw [beq_eq_false_iff_ne]; simp only [List.length_cons]; omega
      by_cases hc : a = ⟨#[99]⟩
      · have HL3 := Lib.hid (show U = linesM s (n + 1) (linesB rest) from by rw [HL2.out, lineM_nil (.inr (by rw [hc]; rfl)), if_neg (by simp)])
        rw [decide_eq_true hc] at ha
        clear HL2 hc
        go_wp2_with fail
        go_roundg (rest.size + 1)
        case measure => omega
        case rel => exact ⟨n + 1, rest, s, rfl, by go_num, rfl, by omega, hinv, HL3.out, hR2.frame fun _ _ _ h => h.sel [0, 1, 2, 3] 1⟩
      rw [decide_eq_false hc] at ha
      have hlm : lineM s (a :: tl) = if s.begun = false then (headS s (headM (a :: tl)), (headM (a :: tl)).1) else wordsM s (a :: tl) := if_neg (by rintro (h | h); · cases h
                                                                                                                                                    · injection h with h; exact hc h)
      have hw0 : 0 < (a :: tl).length := by simp
      clear hc h4
      generalize hWS : a :: tl = ws at *
      have HWS := Lib.hid hWS; clear hWS
      cases hbg : s.begun with
      | false =>
        rw [hbg] at c5
        rw [if_pos hbg] at hlm
        have hin2 : (headS s (headM ws)).Inv := by
          have := lineM_inv hinv ws
          rw [hlm] at this; exact this
        rw [hlm] at HL2
        clear hlm
        have BW := head_walk w0 w2 _ (F + 1) s _ ws hR2
        have HL3 := HL2.out
        simp only at HL3
        replace HL3 := Lib.hid HL3
        clear HL2 hR2
        generalize headS s (headM ws) = s' at *
        generalize (headM ws).1 = er at *
        go_wp2_with fail
        refine BW.mono ?_
        rintro e w3 ⟨rfl, hR3⟩
        clear BW c5 q0
        by_cases e0 : er = 0
        · have HL4 := Lib.hid (show U = linesM s' (n + 1) (linesB rest) from by rw [HL3.out, if_neg (by simp [e0])])
          have d0 : (er != 0) = false := by simp [e0]
          subst e0
          clear HL3
          go_wp2_with fail
          go_roundg (rest.size + 1)
          case measure => omega
          case rel => exact ⟨n + 1, rest, s', rfl, by go_num, rfl, by omega, hin2, HL4.out, hR3.frame fun _ _ _ h => h.sel [0, 1, 2, 3] 1⟩
        · have HL4 := Lib.hid (show U = (s', n + 1, er) from by rw [HL3.out, if_pos e0])
          have d0 : (er != 0) = true := by simp [e0]
          have HP2 := Lib.hid (show PM = (0, [], ((n + 1 : Nat) : Int), er) from by rw [HP.out, HL4.out, if_pos e0])
          clear HL3 HL4 HP e0
          obtain ⟨X, Y, Z, T4, h5⟩ := hR3.st
          clear hR3
          have hs0 := h5.pull 5
          have hs := (hs0.set 0 (.int .i64 0)).set 1 (.slice none 0 0)
          have k0 := hs0.cell 0
          have k1 := hs0.cell 1
          have kf0 := hs0.free 0
          have kf1 := hs0.free 1
          go_wp2_with fail
          generalize World.setCell _ _ _ = wz at hs ⊢
          have b0 := hs.cell 0
          have b1 := hs.cell 1
          try rw [Exit.noGoto_ret]
          refine bodyPost_ret (v := .tuple #[.agg #[.int .i64 0, .slice none 0 0], .int .i64 ((n : Int) + 1), .int .i64 er]) (by simp [results, Tryd.results30, go_sem, b0, b1]) rfl ⟨.slice none 0 0, _, by rw [HP2.out] <;> simp, (hs.sel [] 6).nil2 (cInt .i64) 3 51, ?_⟩
          rw [HP2.out]
          exact Ent.rd2
      | true =>
        rw [hbg] at c5
        rw [if_neg (by rw [hbg]; decide)] at hlm
        rw [hlm] at HL2
        clear hlm
        have HL3 := HL2.out
        replace HL3 := Lib.hid HL3
        clear HL2
        have hok := hinv.ok
        have hwl : ws.length ≤ 1073741825 := by have := hWL.out; omega
        go_wp2_with fail
        clear c5
        go_loopg [56] ws.length (fun k i wr => ∃ (t : Nat) (s' : Rst), t ≤ ws.length ∧ k = ws.length - t ∧ i = .int .i64 t ∧ s'.Ok ∧ s'.begun = true ∧ wordsM s ws = wordsM s' (ws.drop t) ∧ RP w0 (F + 1) s' (Arr cStr 9 (.slice (some ⟨gw, 0, none⟩) ws.length c2) ws :: Blk F (.cells #[.int .i64 0, .slice none 0 0] 24 (0, 0)) :: l) wr)
        case atStart => exact ⟨0, s, Nat.zero_le _, rfl, rfl, hok, hbg, rfl, hR2⟩
        case round =>
          clear hR2 q0 hok
          obtain ⟨t, s', ht, hgk, rfl, hok, hb2, hM, hR3⟩ := hrel
          subst hgk
          by_cases hlt2 : t < ws.length
          · obtain ⟨X, Y, Z, T4, h5⟩ := hR3.st
            have hcell := ((h5.pull 4).arr_cell1 rfl t _ (List.getElem?_eq_getElem hlt2) _ rfl).1
            have WD := word_walk w0 wr _ (F + 1) s' hok hR3 ws[t]
            have hok2 := wordM_ok hok ws[t]
            have hb3 := wordM_begun s' ws[t]
            rw [List.drop_eq_getElem_cons hlt2, wordsM] at hM
            have HM := Lib.hid hM; clear hM
            generalize ws[t] = x at *
            generalize wordM s' x = r at *
            obtain ⟨s2, er⟩ := r
            simp only at hok2 hb3 WD
            have HM2 := HM.out
            simp only at HM2
            replace HM2 := Lib.hid HM2
            clear HM h5 hR3
            go_wp2_with fail
            refine WD.mono ?_
            rintro e w3 ⟨rfl, hR4⟩
            clear WD hcell
            by_cases e0 : er = 0
            · have HM3 := Lib.hid (show wordsM s ws = wordsM s2 (ws.drop (t + 1)) from by rw [HM2.out, if_neg (by simp [e0])])
              subst e0
              clear HM2
              go_wp2_with fail
              go_roundg (ws.length - (t + 1))
              case measure => omega
              case rel => exact ⟨t + 1, s2, by omega, rfl, by go_num, hok2, by rw [hb3]; exact hb2, HM3.out, hR4⟩
            · have HL4 := Lib.hid (show U = (s2, n + 1, er) from by
                rw [HL3.out, HM2.out, if_pos e0]
                exact if_pos e0)
              have d0 : (er != 0) = true := by simp [e0]
              have HP2 := Lib.hid (show PM = (0, [], ((n + 1 : Nat) : Int), er) from by rw [HP.out, HL4.out]; exact if_pos e0)
              clear HL3 HL4 HP HM2 e0
              obtain ⟨X, Y, Z, T4, h5⟩ := hR4.st
              clear hR4
              have hs0 := h5.pull 5
              have hs := (hs0.set 0 (.int .i64 0)).set 1 (.slice none 0 0)
              have k0 := hs0.cell 0
              have k1 := hs0.cell 1
              have kf0 := hs0.free 0
              have kf1 := hs0.free 1
              go_wp2_with fail
              generalize World.setCell _ _ _ = wz at hs ⊢
              have b0 := hs.cell 0
              have b1 := hs.cell 1
              try rw [Exit.noGoto_ret]
              refine bodyPost_ret (v := .tuple #[.agg #[.int .i64 0, .slice none 0 0], .int .i64 ((n : Int) + 1), .int .i64 er]) (by simp [results, Tryd.results30, go_sem, b0, b1]) rfl ⟨.slice none 0 0, _, by rw [HP2.out] <;> simp, (hs.sel [] 6).nil2 (cInt .i64) 3 51, ?_⟩
              rw [HP2.out]
              exact Ent.rd2
          · obtain rfl : t = ws.length := by omega
            have HM2 := Lib.hid (show wordsM s ws = (s', 0) from by rw [hM, List.drop_length]; rfl)
            clear hM
            have HL4 := Lib.hid (show U = linesM s' (n + 1) (linesB rest) from by rw [HL3.out, HM2.out, if_neg (by simp)])
            clear HL3 HM2
            go_wp2_with fail
            go_roundg (rest.size + 1)
            case measure => omega
            case rel => exact ⟨n + 1, rest, s', rfl, by go_num, rfl, by omega, ⟨hok, fun e => by rw [hb2] at e; cases e⟩, HL4.out, hR3.frame fun _ _ _ h => h.sel [0, 1, 2, 3] 1⟩
end Go.Proofs.YtnmkdhoijdoccaaDoor
