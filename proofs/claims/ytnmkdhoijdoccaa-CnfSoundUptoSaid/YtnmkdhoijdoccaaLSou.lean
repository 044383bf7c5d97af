/- The law CnfSound. -/
import Derived.Test.YtnmkdhoijdoccaaCnLv
import Derived.Test.YtnmkdhoijdoccaaCnSu
import Derived.Test.YtnmkdhoijdoccaaCnQ
set_option linter.unusedVariables false
set_option linter.unusedSimpArgs false
namespace Go.Proofs.Ytnmkdhoijdoccaa
open Go Go.RowKit SL

set_option maxRecDepth 100000 in
set_option maxHeartbeats 16000000 in
theorem sound_walk (W : World) (va : Value) (a : List Int) (vb : Value) (b : List Int) (v : Int) (vm : Value) (m : List Int) (ha : Ent [Old W] (Rd (cInt .i64) va a)) (hIa : ∀ x ∈ a, I64 x) (hb : Ent [Old W] (Rd (cInt .i64) vb b)) (hIb : ∀ x ∈ b, I64 x) (hv : I64 v) (hm : Ent [Old W] (Rd (cInt .i8) vm m)) (hmb : ∀ x ∈ m, -128 ≤ x ∧ x ≤ 127) (hsz : a.length + b.length + m.length ≤ 1048576) :
    Calls Try.prog 9 #[va, vb, .int .i64 v, vm] W fun e w' => e = .returned (.bool true) ∧ SL.St W [Old W] w' := by
  have h := SL.St.start W
  have VA := fun w' (h : SL.St W [Old W] w') => value_walk w' va vm a m (ha.use h) hIa (hm.use h) hmb
  have VB := fun w' (h : SL.St W [Old W] w') => value_walk w' vb vm b m (hb.use h) hIb (hm.use h) hmb
  have OV := fun w' (h : SL.St W [Old W] w') => of_walk w' vm m (hm.use h) hmb v hv
  have T1 := fun w' (h : SL.St W [Old W] w') => subsumes_walk W w' _ h va vb a b ha hb hIa hIb
  have R1 := fun w' (h : SL.St W [Old W] w') => resolve_walk W w' _ h va vb a b ha hb hIa hIb v hv
  have VC := fun w' (u : Value) (c : List Int) (h : SL.St W (Arr (cInt .i64) 3 u c :: [Old W]) w') (hc : ∀ x ∈ c, I64 x) => value_walk w' u vm c m h.rd hc ((Ent.tail hm).use h) hmb
  have P1 := Lib.hid (@sub_sound a b m)
  have P2 := Lib.hid (@resM_err a b v)
  have P3 := Lib.hid (@res_sound a b m v)
  have P4 := Lib.hid (show ∀ x ∈ (resM a b v).1, I64 x from fun x hx => by
    by_cases e : (resM a b v).2 = 0
    · rw [resM_ok e] at hx
      rcases List.mem_append.1 (setM_mem.1 hx) with hx | hx
      · exact hIa x (List.mem_filter.1 hx).1
      · exact hIb x (List.mem_filter.1 hx).1
    · rw [resM_err e] at hx; cases hx)
  have HVC := fun w' u (h : SL.St W (Arr (cInt .i64) 3 u (resM a b v).1 :: [Old W]) w') => VC w' u _ h P4.out
  clear VC hIa hIb ha hb hm hmb
  have bO := ofM_vals m v
  have bA := valM_vals a m
  have bB := valM_vals b m
  generalize hVC : valM (resM a b v).1 m = vc at *
  have HVCE := Lib.hid hVC; clear hVC
  generalize subM a b = D at *
  generalize valM a m = VA' at *
  generalize valM b m = VB' at *
  generalize ofM m v = O at *
  generalize resM a b v = R at *
  obtain ⟨S, E⟩ := R
  simp only at P2 P3 R1 HVCE HVC
  have HR1 := Lib.hid R1; have HV := Lib.hid HVC; have HT1 := Lib.hid T1
  clear R1 HVC T1 P4
  go_enter Try.func9, Try.ntmps9
  go_wp2_with fail
  refine (live_walk W W _ h).mono ?_
  rintro e w1 ⟨rfl, h1⟩
  have T2 := HT1.out w1 h1
  clear h HT1
  go_wp2_with fail
  refine T2.mono ?_
  rintro e w2 ⟨rfl, h2⟩
  have VA2 := VA w2 h2
  have VB2 := VB w2 h2
  clear T2 h1
  cases D with
  | false =>
    go_wp2_with fail
    refine (HR1.out _ h2).mono ?_
    rintro e w3 ⟨v3, rfl, h3⟩
    clear HR1 VA2 VB2
    by_cases eE : E = 0
    · have VC3 := HV.out w3 v3 h3
      have OV3 := OV w3 h3.drop
      have VA3 := VA w3 h3.drop
      have VB3 := VB w3 h3.drop
      have P5 := Lib.hid (P3.out eE)
      subst eE
      clear OV VA VB
      go_wp2_with (go_at_call 16; refine (no_walk _ _).mono ?_; rintro e w' ⟨rfl, rfl⟩)
      refine OV3.mono ?_
      rintro e w' ⟨rfl, rfl⟩
      by_cases eO : O = 0
      · have d1 : (O == 0) = true := by simp [eO]
        clear eO
        go_wp2_with fail
        go_ret
        exact ⟨rfl, h3.drop⟩
      · have d1 : (O == 0) = false := by simp [eO]
        have P6 := Lib.hid (P5.out eO)
        clear eO
        go_wp2_with fail
        refine VA3.mono ?_
        rintro e w' ⟨rfl, rfl⟩
        by_cases eA : VA' = 1
        · have d2 : (VA' != 1) = false := by simp [eA]
          have P7 := Lib.hid (P6.out eA)
          clear eA
          go_wp2_with fail
          refine VB3.mono ?_
          rintro e w' ⟨rfl, rfl⟩
          by_cases eB : VB' = 1
          · have d3 : (VB' != 1) = false := by simp [eB]
            have HVC1 := Lib.hid (P7.out eB)
            clear eB
            go_wp2_with fail
            refine VC3.mono ?_
            rintro e w' ⟨rfl, rfl⟩
            have d4 : (vc == 1) = true := by rw [HVC1.out]; rfl
            go_wp2_with fail
            go_ret
            exact ⟨rfl, h3.drop⟩
          · have d3 : (VB' != 1) = true := by simp [eB]
            clear eB
            go_wp2_with fail
            go_ret
            exact ⟨rfl, h3.drop⟩
        · have d2 : (VA' != 1) = true := by simp [eA]
          clear eA
          go_wp2_with fail
          go_ret
          exact ⟨rfl, h3.drop⟩
    · have d1 : (E != 0) = true := by simp [eE]
      obtain rfl : S = [] := P2.out eE
      obtain ⟨A3, c3, rfl, -, -⟩ := h3.rd
      clear eE
      go_wp2_with (go_at_call 16; refine (no_walk _ _).mono ?_; rintro e w' ⟨rfl, rfl⟩)
      go_ret
      exact ⟨rfl, h3.drop⟩
  | true =>
    by_cases eA1 : VA' = 1
    · have dA : (VA' == 1) = true := by simp [eA1]
      have dB : (VB' != 1) = false := by simp [P1.out rfl eA1]
      clear eA1
      go_wp2_with fail
      refine VA2.mono ?_
      rintro e w' ⟨rfl, rfl⟩
      go_wp2_with fail
      refine VB2.mono ?_
      rintro e w' ⟨rfl, rfl⟩
      go_wp2_with fail
      clear dA dB
      refine (HR1.out _ h2).mono ?_
      rintro e w3 ⟨v3, rfl, h3⟩
      clear HR1 VA2 VB2
      by_cases eE : E = 0
      · have VC3 := HV.out w3 v3 h3
        have OV3 := OV w3 h3.drop
        have VA3 := VA w3 h3.drop
        have VB3 := VB w3 h3.drop
        have P5 := Lib.hid (P3.out eE)
        subst eE
        clear OV VA VB
        go_wp2_with (go_at_call 16; refine (no_walk _ _).mono ?_; rintro e w' ⟨rfl, rfl⟩)
        refine OV3.mono ?_
        rintro e w' ⟨rfl, rfl⟩
        by_cases eO : O = 0
        · have d1 : (O == 0) = true := by simp [eO]
          clear eO
          go_wp2_with fail
          go_ret
          exact ⟨rfl, h3.drop⟩
        · have d1 : (O == 0) = false := by simp [eO]
          have P6 := Lib.hid (P5.out eO)
          clear eO
          go_wp2_with fail
          refine VA3.mono ?_
          rintro e w' ⟨rfl, rfl⟩
          by_cases eA : VA' = 1
          · have d2 : (VA' != 1) = false := by simp [eA]
            have P7 := Lib.hid (P6.out eA)
            clear eA
            go_wp2_with fail
            refine VB3.mono ?_
            rintro e w' ⟨rfl, rfl⟩
            by_cases eB : VB' = 1
            · have d3 : (VB' != 1) = false := by simp [eB]
              have HVC1 := Lib.hid (P7.out eB)
              clear eB
              go_wp2_with fail
              refine VC3.mono ?_
              rintro e w' ⟨rfl, rfl⟩
              have d4 : (vc == 1) = true := by rw [HVC1.out]; rfl
              go_wp2_with fail
              go_ret
              exact ⟨rfl, h3.drop⟩
            · have d3 : (VB' != 1) = true := by simp [eB]
              clear eB
              go_wp2_with fail
              go_ret
              exact ⟨rfl, h3.drop⟩
          · have d2 : (VA' != 1) = true := by simp [eA]
            clear eA
            go_wp2_with fail
            go_ret
            exact ⟨rfl, h3.drop⟩
      · have d1 : (E != 0) = true := by simp [eE]
        obtain rfl : S = [] := P2.out eE
        obtain ⟨A3, c3, rfl, -, -⟩ := h3.rd
        clear eE
        go_wp2_with (go_at_call 16; refine (no_walk _ _).mono ?_; rintro e w' ⟨rfl, rfl⟩)
        go_ret
        exact ⟨rfl, h3.drop⟩
    · have dA : (VA' == 1) = false := by simp [eA1]
      clear eA1
      go_wp2_with fail
      refine VA2.mono ?_
      rintro e w' ⟨rfl, rfl⟩
      go_wp2_with fail
      clear dA
      refine (HR1.out _ h2).mono ?_
      rintro e w3 ⟨v3, rfl, h3⟩
      clear HR1 VA2 VB2
      by_cases eE : E = 0
      · have VC3 := HV.out w3 v3 h3
        have OV3 := OV w3 h3.drop
        have VA3 := VA w3 h3.drop
        have VB3 := VB w3 h3.drop
        have P5 := Lib.hid (P3.out eE)
        subst eE
        clear OV VA VB
        go_wp2_with (go_at_call 16; refine (no_walk _ _).mono ?_; rintro e w' ⟨rfl, rfl⟩)
        refine OV3.mono ?_
        rintro e w' ⟨rfl, rfl⟩
        by_cases eO : O = 0
        · have d1 : (O == 0) = true := by simp [eO]
          clear eO
          go_wp2_with fail
          go_ret
          exact ⟨rfl, h3.drop⟩
        · have d1 : (O == 0) = false := by simp [eO]
          have P6 := Lib.hid (P5.out eO)
          clear eO
          go_wp2_with fail
          refine VA3.mono ?_
          rintro e w' ⟨rfl, rfl⟩
          by_cases eA : VA' = 1
          · have d2 : (VA' != 1) = false := by simp [eA]
            have P7 := Lib.hid (P6.out eA)
            clear eA
            go_wp2_with fail
            refine VB3.mono ?_
            rintro e w' ⟨rfl, rfl⟩
            by_cases eB : VB' = 1
            · have d3 : (VB' != 1) = false := by simp [eB]
              have HVC1 := Lib.hid (P7.out eB)
              clear eB
              go_wp2_with fail
              refine VC3.mono ?_
              rintro e w' ⟨rfl, rfl⟩
              have d4 : (vc == 1) = true := by rw [HVC1.out]; rfl
              go_wp2_with fail
              go_ret
              exact ⟨rfl, h3.drop⟩
            · have d3 : (VB' != 1) = true := by simp [eB]
              clear eB
              go_wp2_with fail
              go_ret
              exact ⟨rfl, h3.drop⟩
          · have d2 : (VA' != 1) = true := by simp [eA]
            clear eA
            go_wp2_with fail
            go_ret
            exact ⟨rfl, h3.drop⟩
      · have d1 : (E != 0) = true := by simp [eE]
        obtain rfl : S = [] := P2.out eE
        obtain ⟨A3, c3, rfl, -, -⟩ := h3.rd
        clear eE
        go_wp2_with (go_at_call 16; refine (no_walk _ _).mono ?_; rintro e w' ⟨rfl, rfl⟩)
        go_ret
        exact ⟨rfl, h3.drop⟩
end Go.Proofs.Ytnmkdhoijdoccaa
