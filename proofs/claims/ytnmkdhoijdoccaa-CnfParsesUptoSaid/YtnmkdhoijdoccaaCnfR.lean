/- The reference's Lit, Var, Of, Value: told quietly. -/
import Derived.Test.YtnmkdhoijdoccaaRw2
import Derived.Test.YtnmkdhoijdoccaaProg
import Derived.Test.YtnmkdhoijdoccaaOrd
import Derived.Deep.LoopGhost
import Derived.WalkSmall
set_option linter.unusedVariables false
set_option linter.unusedSimpArgs false
namespace Go.Proofs.Ytnmkdhoijdoccaa
open Go Go.RowKit SL

def I64 (k : Int) : Prop := -9223372036854775808 ≤ k ∧ k ≤ 9223372036854775807
def litOk (l : Int) : Bool := l != 0 && decide (-1048576 ≤ l) && decide (l ≤ 1048576)
def varM (l : Int) : Int := if l < 0 then -l else l
theorem litOk_true {l : Int} (h : l ≠ 0) (h1 : -1048576 ≤ l) (h2 : l ≤ 1048576) : litOk l = true := by simp [litOk, h, h1, h2]
theorem litOk_iff {l : Int} : litOk l = true ↔ l ≠ 0 ∧ -1048576 ≤ l ∧ l ≤ 1048576 := by simp [litOk, and_assoc]
theorem rlit_walk (w : World) (l : Int) (h : I64 l) :
    Calls Try.prog 19 #[.int .i64 l] w fun e w' => e = .returned (.bool (litOk l)) ∧ w' = w := by
  obtain ⟨h1, h2⟩ := h
  have hL : litOk l = (l != 0 && decide (-1048576 ≤ l) && decide (l ≤ 1048576)) := rfl
  generalize litOk l = L at *
  by_cases e0 : l = 0
  · have d0 : (l != 0) = false := by simp [e0]
    rw [d0] at hL; simp only [Bool.false_and] at hL
    subst hL; clear e0
    go_enter Try.func19, Try.ntmps19
    go_wp2
    go_ret
    exact ⟨rfl, rfl⟩
  have d0 : (l != 0) = true := by simp [e0]
  by_cases e1 : -1048576 ≤ l
  · have d1 : decide (-1048576 ≤ l) = true := decide_eq_true e1
    by_cases e2 : l ≤ 1048576
    · have d2 : decide (l ≤ 1048576) = true := decide_eq_true e2
      rw [d0, d1, d2] at hL; simp only [Bool.and_self] at hL
      subst hL; clear e0
      go_enter Try.func19, Try.ntmps19
      go_wp2
      go_ret
      exact ⟨rfl, rfl⟩
    · have d2 : decide (l ≤ 1048576) = false := decide_eq_false e2
      rw [d0, d1, d2] at hL; simp only [Bool.and_false] at hL
      subst hL; clear e0
      go_enter Try.func19, Try.ntmps19
      go_wp2
      go_ret
      exact ⟨rfl, rfl⟩
  · have d1 : decide (-1048576 ≤ l) = false := decide_eq_false e1
    rw [d0, d1] at hL; simp only [Bool.and_false, Bool.false_and] at hL
    subst hL; clear e0
    go_enter Try.func19, Try.ntmps19
    go_wp2
    go_ret
    exact ⟨rfl, rfl⟩
theorem rvar_walk (w : World) (l : Int) (h1 : -9223372036854775807 ≤ l) (h2 : l ≤ 9223372036854775807) :
    Calls Try.prog 43 #[.int .i64 l] w fun e w' => e = .returned (.int .i64 (varM l)) ∧ w' = w := by
  have hV : varM l = if l < 0 then -l else l := rfl
  generalize varM l = V at *
  by_cases e : l < 0
  · rw [if_pos e] at hV
    have HV := Lib.hid hV; clear hV
    go_enter Try.func43, Try.ntmps43
    go_wp2
    go_ret
    exact ⟨by rw [HV.out]; rfl, rfl⟩
  · rw [if_neg e] at hV
    have HV := Lib.hid hV; clear hV
    have e' : 0 ≤ l := by omega
    clear e
    go_enter Try.func43, Try.ntmps43
    go_wp2
    go_ret
    exact ⟨by rw [HV.out]; rfl, rfl⟩

/-- What a literal is under an assignment. -/
def ofM (m : List Int) (l : Int) : Int :=
  if litOk l = true ∧ varM l ≤ m.length then
    let x := m.getD ((varM l).toNat - 1) 0
    if x = 1 ∨ x = -1 then (if l < 0 then -x else x) else 0
  else 0
theorem ofM_vals (m : List Int) (l : Int) : ofM m l = 0 ∨ ofM m l = 1 ∨ ofM m l = -1 := by
  unfold ofM
  split
  · simp only
    split
    · rename_i h; rcases h with h | h <;> split <;> rw [h] <;> simp
    · exact .inl rfl
  · exact .inl rfl

set_option maxHeartbeats 1000000 in
theorem rof02_walk (w : World) (v : Value) (m : List Int) (hm : Rd (cInt .i8) v m w) (hb : ∀ x ∈ m, -128 ≤ x ∧ x ≤ 127) (l : Int) (hl : I64 l) :
    Calls Try.prog 31 #[v, .int .i64 l] w fun e w' => e = .returned (.int .i8 (ofM m l)) ∧ w' = w := by
  obtain ⟨A, c, rfl, hml, hc⟩ := hm
  unfold maxLen at hml
  have hO : ofM m l = if litOk l = true ∧ varM l ≤ m.length then (if m.getD ((varM l).toNat - 1) 0 = 1 ∨ m.getD ((varM l).toNat - 1) 0 = -1 then (if l < 0 then -(m.getD ((varM l).toNat - 1) 0) else m.getD ((varM l).toNat - 1) 0) else 0) else 0 := rfl
  generalize ofM m l = O at *
  have LW := rlit_walk w l hl
  by_cases e0 : litOk l = true
  · have hlb := litOk_iff.1 e0
    rw [e0] at LW
    obtain ⟨hn0, hb1, hb2⟩ := hlb
    have VW := rvar_walk w l (by omega) (by omega)
    have hv1 : 1 ≤ varM l := by unfold varM; split <;> omega
    have hv2 : varM l ≤ 1048576 := by unfold varM; split <;> omega
    generalize varM l = V at *
    by_cases e1 : V ≤ m.length
    · have d1 : decide (V > (m.length : Int)) = false := decide_eq_false (by omega)
      have d1' : decide ((m.length : Int) < V) = false := decide_eq_false (by omega)
      rw [if_pos ⟨e0, e1⟩] at hO
      have hi : V.toNat - 1 < m.length := by omega
      obtain ⟨ad, rfl, hcell⟩ := rd_at_int hc _ hi
      have hx := hb _ (List.getElem_mem hi)
      have hg : m.getD (V.toNat - 1) 0 = m[V.toNat - 1] := by simp [List.getD_eq_getElem?_getD, hi]
      rw [hg] at hO
      clear hc hb hg
      generalize m[V.toNat - 1] = x at *
      have hidx : (V - 1).toNat = V.toNat - 1 := by omega
      have hidx2 : 0 ≤ V - 1 := by omega
      have hidx3 : V - 1 < m.length := by omega
      generalize V.toNat - 1 = i at *
      have HI := Lib.hid hidx; 
      by_cases x1 : x = 1 ∨ x = -1
      · rw [if_pos x1] at hO
        by_cases l0 : l < 0
        · rw [if_pos l0] at hO
          have HO := Lib.hid hO; clear hO hn0
          rcases x1 with rfl | rfl
          · go_enter Try.func31, Try.ntmps31
            go_wp2_with (first | (go_at_call 19; refine LW.mono ?_; rintro e w' ⟨rfl, rfl⟩) | (go_at_call 43; refine VW.mono ?_; rintro e w' ⟨rfl, rfl⟩))
            go_ret
            exact ⟨by rw [HO.out]; rfl, rfl⟩
          · go_enter Try.func31, Try.ntmps31
            go_wp2_with (first | (go_at_call 19; refine LW.mono ?_; rintro e w' ⟨rfl, rfl⟩) | (go_at_call 43; refine VW.mono ?_; rintro e w' ⟨rfl, rfl⟩))
            go_ret
            exact ⟨by rw [HO.out]; rfl, rfl⟩
        · rw [if_neg l0] at hO
          have HO := Lib.hid hO; clear hO hn0
          have l0' : 0 ≤ l := by omega
          clear l0
          rcases x1 with rfl | rfl
          · go_enter Try.func31, Try.ntmps31
            go_wp2_with (first | (go_at_call 19; refine LW.mono ?_; rintro e w' ⟨rfl, rfl⟩) | (go_at_call 43; refine VW.mono ?_; rintro e w' ⟨rfl, rfl⟩))
            go_ret
            exact ⟨by rw [HO.out]; rfl, rfl⟩
          · go_enter Try.func31, Try.ntmps31
            go_wp2_with (first | (go_at_call 19; refine LW.mono ?_; rintro e w' ⟨rfl, rfl⟩) | (go_at_call 43; refine VW.mono ?_; rintro e w' ⟨rfl, rfl⟩))
            go_ret
            exact ⟨by rw [HO.out]; rfl, rfl⟩
      · rw [if_neg x1] at hO
        have HO := Lib.hid hO; clear hO hn0
        have q1 : (x != 1) = true := by simp; omega
        have q2 : (x != -1) = true := by simp; omega
        clear x1
        go_enter Try.func31, Try.ntmps31
        go_wp2_with (first | (go_at_call 19; refine LW.mono ?_; rintro e w' ⟨rfl, rfl⟩) | (go_at_call 43; refine VW.mono ?_; rintro e w' ⟨rfl, rfl⟩))
        go_ret
        exact ⟨by rw [HO.out]; rfl, rfl⟩
    · have d1 : decide (V > (m.length : Int)) = true := decide_eq_true (by omega)
      have d1' : decide ((m.length : Int) < V) = true := decide_eq_true (by omega)
      rw [if_neg (fun h => e1 h.2)] at hO
      have HO := Lib.hid hO; clear hO hn0 e1 hc hb
      go_enter Try.func31, Try.ntmps31
      go_wp2_with (first | (go_at_call 19; refine LW.mono ?_; rintro e w' ⟨rfl, rfl⟩) | (go_at_call 43; refine VW.mono ?_; rintro e w' ⟨rfl, rfl⟩))
      go_ret
      exact ⟨by rw [HO.out]; rfl, rfl⟩
  · have e0' : litOk l = false := by simpa using e0
    rw [e0'] at LW
    rw [if_neg (fun h => e0 h.1)] at hO
    have HO := Lib.hid hO; clear hO e0 e0' hc hb
    go_enter Try.func31, Try.ntmps31
    go_wp2_with (go_at_call 19; refine LW.mono ?_; rintro e w' ⟨rfl, rfl⟩)
    go_ret
    exact ⟨by rw [HO.out]; rfl, rfl⟩

/-- What a clause is under an assignment. -/
def valM (c m : List Int) : Int := if c.any (fun l => ofM m l == 1) then 1 else if c.any (fun l => ofM m l == 0) then 0 else -1

set_option maxHeartbeats 1000000 in
theorem rvalue_walk (w : World) (vc vm : Value) (cl m : List Int) (hc : Rd (cInt .i64) vc cl w) (hcb : ∀ l ∈ cl, I64 l) (hm : Rd (cInt .i8) vm m w) (hb : ∀ x ∈ m, -128 ≤ x ∧ x ≤ 127) :
    Calls Try.prog 33 #[vc, vm] w fun e w' => e = .returned (.int .i8 (valM cl m)) ∧ w' = w := by
  have ow := fun l hl => rof02_walk w vm m hm hb l hl
  obtain ⟨A, c, rfl, hml, hcc⟩ := hc
  unfold maxLen at hml
  have hV : valM cl m = if cl.any (fun l => ofM m l == 1) then 1 else if cl.any (fun l => ofM m l == 0) then 0 else -1 := rfl
  generalize valM cl m = V at *
  have HV := Lib.hid hV; clear hV
  go_enter Try.func33, Try.ntmps33
  go_wp2_with fail
  go_loop [5, 6] (fun o i => ∃ k : Nat, k ≤ cl.length ∧ i = .int .i64 k ∧ o = .bool ((cl.take k).any (fun l => ofM m l == 0)) ∧ (cl.take k).any (fun l => ofM m l == 1) = false) (fun _ i => cl.length - (intOf i).toNat)
  case atStart => exact ⟨0, Nat.zero_le _, rfl, rfl, rfl⟩
  case round =>
    obtain ⟨k, hk, rfl, rfl, hno⟩ := hrel
    have HNO := Lib.hid hno; clear hno
    by_cases hlt : k < cl.length
    · obtain ⟨ad, rfl, hcell⟩ := rd_at_int hcc k hlt
      have hbl := hcb _ (List.getElem_mem hlt)
      have HT := Lib.hid (show cl.take (k + 1) = cl.take k ++ [cl[k]] by rw [List.take_succ_eq_append_getElem hlt])
      have hmem : cl[k] ∈ cl := List.getElem_mem hlt
      generalize hO0 : (cl.take k).any (fun l => ofM m l == 0) = o0 at *
      have HO0 := Lib.hid hO0; clear hO0 hcc hcb
      generalize cl[k] = l at *
      have OW := ow l hbl
      have hvals := ofM_vals m l
      generalize hO : ofM m l = O at *
      have HO := Lib.hid hO; clear hO ow
      rcases hvals with rfl | rfl | rfl
      · cases o0
        all_goals
          go_wp2_with (go_at_call 31; refine OW.mono ?_; rintro e w' ⟨rfl, rfl⟩)
          go_round
          case rel => exact ⟨k + 1, by omega, by go_num, by rw [HT.out, List.any_append, HO0.out]; simp [HO.out], by rw [HT.out, List.any_append, HNO.out]; simp [HO.out]⟩
          case measure => simp [intOf]; omega
      · go_wp2_with (go_at_call 31; refine OW.mono ?_; rintro e w' ⟨rfl, rfl⟩)
        go_ret
        refine ⟨?_, rfl⟩
        rw [HV.out, if_pos (by rw [List.any_eq_true]; exact ⟨l, hmem, by simp [HO.out]⟩)]; rfl
      · cases o0
        all_goals
          go_wp2_with (go_at_call 31; refine OW.mono ?_; rintro e w' ⟨rfl, rfl⟩)
          go_round
          case rel => exact ⟨k + 1, by omega, by go_num, by rw [HT.out, List.any_append, HO0.out]; simp [HO.out], by rw [HT.out, List.any_append, HNO.out]; simp [HO.out]⟩
          case measure => simp [intOf]; omega
    · obtain rfl : k = cl.length := by omega
      have h1 := HNO.out
      rw [List.take_length] at h1 ⊢
      have HV2 := Lib.hid (show V = if cl.any (fun l => ofM m l == 0) then 0 else -1 by rw [HV.out, if_neg (by rw [h1]; exact Bool.false_ne_true)])
      clear h1 ow hcb hcc
      generalize cl.any (fun l => ofM m l == 0) = b at *
      cases b
      all_goals
        go_wp2_with fail
        go_ret
        exact ⟨by rw [HV2.out]; rfl, rfl⟩
end Go.Proofs.Ytnmkdhoijdoccaa
