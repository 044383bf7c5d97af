/- The program's Norm. -/
import Derived.Test.YtnmkdhoijdoccaaDoorCnN
set_option linter.unusedVariables false
set_option linter.unusedSimpArgs false
namespace Go.Proofs.YtnmkdhoijdoccaaDoor
open Go Go.RowKit Go.Sort SL

set_option maxRecDepth 100000 in
set_option maxHeartbeats 4000000 in
theorem norm_walk (w0 w : World) (l : List HP) (h : SL.St w0 l w) (v : Value) (c : List Int) (hr : Rd (cInt .i64) v c w) (hI : ∀ x ∈ c, I64 x) :
    Calls Tryd.prog 26 #[v] w fun e w' => ∃ v', e = .returned (.tuple #[v', .bool (normT c), .int .i64 (normE c)]) ∧ SL.St w0 (Arr (cInt .i64) 3 v' (normS c) :: l) w' := by
  have hr0 := hr
  obtain ⟨A, cc, rfl, hm, hc⟩ := hr
  unfold maxLen at hm
  have hE : normE c = if 65536 < c.length then 22 else if c.any (fun l => !litOk l) = true then 20 else 0 := rfl
  have hS : normS c = if normE c = 0 then setM c else [] := rfl
  have hT : normT c = if normE c = 0 then twoM (setM c) else false := rfl
  generalize normS c = S at *
  generalize normT c = T at *
  generalize normE c = E at *
  have H := Lib.hid h; clear h
  by_cases f1 : 65536 < c.length
  · have e1 : decide ((65536 : Int) < (c.length : Int)) = true := decide_eq_true (by omega)
    rw [if_pos f1] at hE
    subst hE
    rw [if_neg (by decide)] at hS hT
    subst hS; subst hT
    clear f1 hc hI
    go_enter Tryd.func26, Tryd.ntmps26
    go_wp2_with fail
    go_ret3
    exact ⟨_, rfl, H.out.rows_nil (cInt .i64) 3⟩
  have e1 : decide ((65536 : Int) < (c.length : Int)) = false := decide_eq_false (by omega)
  have hl1 : c.length ≤ 65536 := by omega
  rw [if_neg f1] at hE
  have HE := Lib.hid hE; have HS := Lib.hid hS; have HT := Lib.hid hT
  have HR0 := Lib.hid hr0
  clear hE hS hT f1 hr0
  go_enter Tryd.func26, Tryd.ntmps26
  go_wp2_with fail
  go_loop [14] (fun i => ∃ k : Nat, k ≤ c.length ∧ i = .int .i64 k ∧ (c.take k).any (fun l => !litOk l) = false) (fun i => c.length - (intOf i).toNat)
  case atStart => exact ⟨0, Nat.zero_le _, rfl, rfl⟩
  case round =>
    obtain ⟨k, hk, rfl, hno⟩ := hrel
    have HNO := Lib.hid hno; clear hno
    by_cases hlt : k < c.length
    · obtain ⟨ad, rfl, hcell⟩ := rd_at_int hc k hlt
      have hbl := hI _ (List.getElem_mem hlt)
      have HTK := Lib.hid (show c.take (k + 1) = c.take k ++ [c[k]] by rw [List.take_succ_eq_append_getElem hlt])
      have hmem : c[k] ∈ c := List.getElem_mem hlt
      clear hc hI
      generalize c[k] = y at *
      have LW := lit_walk w y hbl
      cases hlit : litOk y with
      | false =>
        rw [hlit] at LW
        have HB := Lib.hid (show c.any (fun l => !litOk l) = true by rw [List.any_eq_true]; exact ⟨y, hmem, by rw [hlit]; rfl⟩)
        have HE2 := Lib.hid (HE.out.trans (if_pos HB.out))
        clear hlit
        go_wp2_with (go_at_call 45; refine LW.mono ?_; rintro e w' ⟨rfl, rfl⟩)
        go_ret3
        refine ⟨_, by rw [HE2.out, HT.out, HE2.out, if_neg (by decide)]; rfl, ?_⟩
        rw [HS.out, HE2.out, if_neg (by decide)]
        exact H.out.rows_nil (cInt .i64) 3
      | true =>
        rw [hlit] at LW
        have HL := Lib.hid hlit; clear hlit
        go_wp2_with (go_at_call 45; refine LW.mono ?_; rintro e w' ⟨rfl, rfl⟩)
        go_round
        case rel => exact ⟨k + 1, by omega, by go_num, by rw [HTK.out, List.any_append, HNO.out]; simp [HL.out]⟩
        case measure => simp [intOf]; omega
    · obtain rfl : k = c.length := by omega
      have h1 := HNO.out
      rw [List.take_length] at h1
      have HE2 := Lib.hid (HE.out.trans (if_neg (by rw [h1]; exact Bool.false_ne_true)))
      have NW := normed_walk w0 w l H.out _ c HR0.out (fun x hx => by
        cases hl : litOk x with
        | true => rfl
        | false => rw [List.any_eq_true.2 ⟨x, hx, by rw [hl]; rfl⟩] at h1; cases h1) (by omega)
      clear h1 HNO hc hI
      go_wp2_with fail
      refine NW.mono ?_
      rintro e w1 ⟨v1, rfl, h2⟩
      go_wp2_with fail
      go_ret3
      refine ⟨_, by rw [HE2.out, HT.out, HE2.out, if_pos rfl]; rfl, ?_⟩
      rw [HS.out, HE2.out, if_pos rfl]
      exact h2
end Go.Proofs.YtnmkdhoijdoccaaDoor
