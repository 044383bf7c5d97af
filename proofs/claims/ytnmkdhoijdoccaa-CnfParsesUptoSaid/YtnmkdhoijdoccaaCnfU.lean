/- The reference's Under. -/
import Derived.Test.YtnmkdhoijdoccaaCnfS
set_option linter.unusedVariables false
set_option linter.unusedSimpArgs false
namespace Go.Proofs.Ytnmkdhoijdoccaa
open Go Go.RowKit SL

def underFrom (m : List Int) : Nat → Int → List (List Int) → Int × Int × Int
  | i, o, [] => if 0 ≤ o then (0, o, 0) else (1, i, 0)
  | i, o, c :: cs => if valM c m = -1 then (-1, i, 0) else underFrom m (i + 1) (if valM c m = 0 ∧ o < 0 then i else o) cs
def underM (vars : Int) (cls : List (List Int)) (m : List Int) : Int × Int × Int :=
  if (checkM vars cls).2 ≠ 0 then (0, 0, (checkM vars cls).2) else underFrom m 0 (-1) cls
theorem valM_vals (c m : List Int) : valM c m = 0 ∨ valM c m = 1 ∨ valM c m = -1 := by
  unfold valM; split
  · simp
  · split <;> simp

theorem checkFrom_vals (vars : Int) : ∀ (cls : List (List Int)) (i all : Nat), (checkFrom vars i all cls).2 = 0 ∨ (checkFrom vars i all cls).2 = 20 ∨ (checkFrom vars i all cls).2 = 22 ∨ (checkFrom vars i all cls).2 = 23
  | [], _, _ => .inl rfl
  | c :: cs, i, all => by
    unfold checkFrom
    split
    · simp
    split
    · simp
    split
    · simp
    · exact checkFrom_vals vars cs _ _
theorem checkM_vals (vars : Int) (cls : List (List Int)) : 0 ≤ (checkM vars cls).2 ∧ (checkM vars cls).2 ≤ 23 := by
  unfold checkM
  split
  · simp
  split
  · simp
  · rcases checkFrom_vals vars cls 0 0 with h | h | h | h <;> rw [h] <;> simp

set_option maxRecDepth 100000 in
set_option maxHeartbeats 8000000 in
theorem runder_walk (w0 w : World) (l : List HP) (h : SL.St w0 l w) (vars : Int) (hv : I64 vars) (vf vm : Value) (cls : List (List Int)) (m : List Int) (hr : Ent l (Rd2 (cInt .i64) vf cls)) (hI : ∀ c ∈ cls, ∀ x ∈ c, I64 x) (hm : Ent l (Rd (cInt .i8) vm m)) (hb : ∀ x ∈ m, -128 ≤ x ∧ x ≤ 127) :
    Calls Try.prog 29 #[.agg #[.int .i64 vars, vf], vm] w fun e w' => e = .returned (.tuple #[.int .i8 (underM vars cls m).1, .int .i64 (underM vars cls m).2.1, .int .i64 (underM vars cls m).2.2]) ∧ SL.St w0 l w' := by
  have h1 := h.alloc (.cells #[.int .i64 vars, vf] 37)
  obtain ⟨A, c, rfl, hml, -⟩ := (hr.use h).at
  unfold maxLen at hml
  have cw := rcheck_walk w0 _ _ h1 vars hv (.slice A cls.length c) cls (Ent.tail hr) hI
  have hcv := checkM_vals vars cls
  have hU : underM vars cls m = if (checkM vars cls).2 ≠ 0 then (0, 0, (checkM vars cls).2) else underFrom m 0 (-1) cls := rfl
  generalize underM vars cls m = U at *
  generalize checkM vars cls = C at *
  obtain ⟨place, er⟩ := C
  simp only at cw hcv hU
  have HU := Lib.hid hU; clear hU
  obtain ⟨hc1, hc2⟩ := hcv
  go_enter Try.func29, Try.ntmps29
  go_wp2_with fail
  refine cw.mono ?_
  rintro e w1 ⟨rfl, h2⟩
  generalize w.heap.size = B at *
  clear cw h h1
  by_cases e0 : er = 0
  · subst e0
    have hU2 := HU.out
    rw [if_neg (by simp)] at hU2
    have HU2 := Lib.hid hU2; clear hU2 HU
    have g0 : w1.cell? ⟨B, 0, none⟩ = some (.int .i64 vars) := h2.cell 0
    have g1 : w1.cell? ⟨B, 1, none⟩ = some (.slice A cls.length c) := h2.cell 1
    obtain ⟨A', c', hv, -, hcc⟩ := (hr.use h2.drop).at
    obtain rfl : A = A' := by injection hv
    have hmr := hm.use h2.drop
    have HCC := Lib.hid hcc; have H2 := Lib.hid h2
    clear hcc h2 hv
    go_wp2_with fail
    go_loop [9, 10] (fun o i => ∃ (j : Nat) (op : Int), j ≤ cls.length ∧ i = .int .i64 j ∧ o = .int .i64 op ∧ -1 ≤ op ∧ op ≤ cls.length ∧ U = underFrom m j op (cls.drop j)) (fun _ i => cls.length - (intOf i).toNat)
    case atStart => exact ⟨0, -1, Nat.zero_le _, rfl, rfl, by omega, by omega, HU2.out⟩
    case round =>
      obtain ⟨j, op, hj, rfl, rfl, ho1, ho2, hu⟩ := hrel
      have HU3 := Lib.hid hu; clear hu HU2
      by_cases hlt : j < cls.length
      · obtain ⟨ad, Bc, nc, cc, hA', hcell, hrc⟩ := HCC.out j _ (List.getElem?_eq_getElem hlt)
        subst hA'
        have HC2 := Lib.hid (show U = if valM cls[j] m = -1 then (-1, (j : Int), 0) else underFrom m (j + 1) (if valM cls[j] m = 0 ∧ op < 0 then (j : Int) else op) (cls.drop (j + 1)) by
          rw [HU3.out, List.drop_eq_getElem_cons hlt, underFrom])
        have vw := rvalue_walk w1 _ vm cls[j] m hrc (hI _ (List.getElem_mem hlt)) hmr hb
        have hvv := valM_vals cls[j] m
        clear HU3 hrc
        generalize valM cls[j] m = V at *
        rcases hvv with rfl | rfl | rfl
        · by_cases o0 : op < 0
          · have d0 : decide (op < 0) = true := decide_eq_true o0
            have HC3 := Lib.hid (HC2.out.trans (if_neg (by decide))); clear HC2
            have HC4 := Lib.hid (show U = underFrom m (j + 1) (j : Int) (cls.drop (j + 1)) by rw [HC3.out, if_pos ⟨rfl, o0⟩]); clear HC3 o0
            go_wp2_with (go_at_call 33; refine vw.mono ?_; rintro e w' ⟨rfl, rfl⟩)
            go_round
            case rel => exact ⟨j + 1, (j : Int), by omega, by go_num, rfl, by omega, by omega, HC4.out⟩
            case measure => simp [intOf]; omega
          · have d0 : decide (op < 0) = false := decide_eq_false o0
            have HC3 := Lib.hid (HC2.out.trans (if_neg (by decide))); clear HC2
            have HC4 := Lib.hid (show U = underFrom m (j + 1) op (cls.drop (j + 1)) by rw [HC3.out, if_neg (fun h => o0 h.2)]); clear HC3 o0
            go_wp2_with (go_at_call 33; refine vw.mono ?_; rintro e w' ⟨rfl, rfl⟩)
            go_round
            case rel => exact ⟨j + 1, op, by omega, by go_num, rfl, by omega, by omega, HC4.out⟩
            case measure => simp [intOf]; omega
        · have HC3 := Lib.hid (HC2.out.trans (if_neg (by decide))); clear HC2
          have HC4 := Lib.hid (show U = underFrom m (j + 1) op (cls.drop (j + 1)) by rw [HC3.out, if_neg (fun h => absurd h.1 (by decide))]); clear HC3
          go_wp2_with (go_at_call 33; refine vw.mono ?_; rintro e w' ⟨rfl, rfl⟩)
          go_round
          case rel => exact ⟨j + 1, op, by omega, by go_num, rfl, by omega, by omega, HC4.out⟩
          case measure => simp [intOf]; omega
        · have HC3 := Lib.hid (HC2.out.trans (if_pos rfl)); clear HC2
          go_wp2_with (go_at_call 33; refine vw.mono ?_; rintro e w' ⟨rfl, rfl⟩)
          go_ret3
          exact ⟨by rw [HC3.out]; rfl, H2.out.drop⟩
      · obtain rfl : j = cls.length := by omega
        have HC2 := Lib.hid (show U = if 0 ≤ op then (0, op, 0) else (1, (cls.length : Int), 0) by rw [HU3.out, List.drop_length, underFrom]); clear HU3
        by_cases o0 : 0 ≤ op
        · have HC3 := Lib.hid (HC2.out.trans (if_pos o0)); clear HC2
          go_wp2_with fail
          go_ret3
          exact ⟨by rw [HC3.out]; rfl, H2.out.drop⟩
        · have HC3 := Lib.hid (HC2.out.trans (if_neg o0)); clear HC2
          go_wp2_with fail
          go_quiet (fail)
          go_wp2_with fail
          go_ret3
          exact ⟨by rw [HC3.out]; rfl, H2.out.drop.drewN _⟩
  · have d0 : (er != 0) = true := by simp [e0]
    have hU2 := HU.out
    rw [if_pos e0] at hU2
    have HU2 := Lib.hid hU2; clear hU2 HU e0
    go_wp2_with fail
    go_ret3
    exact ⟨by rw [HU2.out]; rfl, h2.drop⟩
end Go.Proofs.Ytnmkdhoijdoccaa
