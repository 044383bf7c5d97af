/- The program's Count. -/
import Derived.Test.YtnmkdhoijdoccaaDoorCnC
set_option linter.unusedVariables false
set_option linter.unusedSimpArgs false
namespace Go.Proofs.YtnmkdhoijdoccaaDoor
open Go Go.RowKit SL

def countM (vars : Int) (cls : List (List Int)) : Nat × Int :=
  if (checkM vars cls).2 ≠ 0 then (0, (checkM vars cls).2) else if 20 < vars then (0, 21) else (countP cls vars.toNat [], 0)
theorem checkFrom_ok (vars : Int) : ∀ (cls : List (List Int)) (i all : Nat), (checkFrom vars i all cls).2 = 0 → ∀ c ∈ cls, c.length ≤ 65536 ∧ ∀ x ∈ c, litOk x = true ∧ varM x ≤ vars
  | [], _, _, _, c, hc => by cases hc
  | d :: cs, i, all, h, c, hc => by
    unfold checkFrom at h
    split at h
    · cases h
    split at h
    · cases h
    split at h
    · cases h
    rename_i h1 h2 h3
    rcases List.mem_cons.1 hc with rfl | hc
    · refine ⟨by omega, fun x hx => ?_⟩
      have hb : badL vars x = false := by
        cases hb : badL vars x with
        | false => rfl
        | true => exact absurd (List.any_eq_true.2 ⟨x, hx, hb⟩) h2
      unfold badL at hb
      simp only [Bool.or_eq_false_iff, Bool.not_eq_false', decide_eq_false_iff_not] at hb
      exact ⟨hb.1, by omega⟩
    · exact checkFrom_ok vars cs _ _ h c hc
theorem checkM_ok {vars : Int} {cls : List (List Int)} (h : (checkM vars cls).2 = 0) : 0 ≤ vars ∧ vars ≤ 1048576 ∧ cls.length ≤ 1048576 ∧ ∀ c ∈ cls, c.length ≤ 65536 ∧ ∀ x ∈ c, litOk x = true ∧ varM x ≤ vars := by
  unfold checkM at h
  split at h
  · cases h
  split at h
  · cases h
  rename_i h1 h2
  exact ⟨by omega, by omega, by omega, checkFrom_ok vars cls 0 0 h⟩

set_option maxRecDepth 100000 in
set_option maxHeartbeats 8000000 in
theorem Count_walk (w0 w : World) (l : List HP) (h : SL.St w0 l w) (vars : Int) (hv : I64 vars) (vf : Value) (cls : List (List Int)) (hr : Ent l (Rd2 (cInt .i64) vf cls)) (hI : ∀ c ∈ cls, ∀ x ∈ c, I64 x) :
    Calls Tryd.prog 36 #[.agg #[.int .i64 vars, vf]] w fun e w' => e = .returned (.tuple #[.int .u64 ((countM vars cls).1 : Nat), .int .i64 (countM vars cls).2]) ∧ SL.St w0 l w' := by
  have h1 := h.alloc (.cells #[.int .i64 vars, vf] 24)
  obtain ⟨A, c, rfl, hm, -⟩ := (hr.use h).at
  unfold maxLen at hm
  have cw := check_walk w0 _ _ h1 vars hv (.slice A cls.length c) cls (Ent.tail hr) hI
  have hcv := checkM_vals vars cls
  have hcok := @checkM_ok vars cls
  have hU : countM vars cls = if (checkM vars cls).2 ≠ 0 then (0, (checkM vars cls).2) else if 20 < vars then (0, 21) else (countP cls vars.toNat [], 0) := rfl
  generalize countM vars cls = U at *
  generalize checkM vars cls = C at *
  obtain ⟨place, er⟩ := C
  simp only at cw hcv hU hcok
  have HU := Lib.hid hU; clear hU
  obtain ⟨hc1, hc2⟩ := hcv
  have HR := Lib.hid hr
  clear hr
  go_enter Tryd.func36, Tryd.ntmps36
  go_wp2_with fail
  refine cw.mono ?_
  rintro e w1 ⟨rfl, h2⟩
  generalize w.heap.size = B at *
  clear cw h h1
  by_cases e0 : er = 0
  · subst e0
    obtain ⟨v1, v2, v3, hlits⟩ := hcok rfl
    have HU2 := Lib.hid (HU.out.trans (if_neg (by simp))); clear HU
    have g0 : w1.cell? ⟨B, 0, none⟩ = some (.int .i64 vars) := h2.cell 0
    have g1 : w1.cell? ⟨B, 1, none⟩ = some (.slice A cls.length c) := h2.cell 1
    have HL := Lib.hid hlits
    clear hlits hcok
    by_cases hv20 : 20 < vars
    · have d : decide (20 < vars) = true := decide_eq_true hv20
      have HU3 := Lib.hid (HU2.out.trans (if_pos hv20)); clear HU2 hv20
      go_wp2_with fail
      go_ret2
      exact ⟨by rw [HU3.out]; rfl, h2.drop⟩
    · have d : decide (20 < vars) = false := decide_eq_false hv20
      have HU3 := Lib.hid (HU2.out.trans (if_neg hv20)); clear HU2
      obtain ⟨n, rfl⟩ : ∃ n : Nat, vars = n := ⟨vars.toNat, by omega⟩
      have hn : n ≤ 20 := by omega
      clear hv20
      have hA := (h2.alloc (.cells (madeCells #[Value.int .i8 0] n) 39)).arr_made (d := cInt .i8) rfl (x := 0) rfl (by unfold maxLen; omega)
      have CW := count_walk w0 _ (.slice A cls.length c) cls (Ent.tail HR.out) hI n hn (fun c hc x hx => (HL.out c hc).2 x hx) _ _ (Nat.le_refl n) n _ 0 _ hA (by simp) (by omega) (fun y hy => by simp at hy) (fun y hy => by simp at hy; obtain ⟨-, rfl⟩ := hy; omega)
      rw [List.take_zero] at CW
      have g2 : (w1.alloc (.cells (madeCells #[Value.int .i8 0] n) 39)).cell? ⟨B, 1, none⟩ = some (.slice A cls.length c) := (hA.pull 1).cell 1
      have HC := Lib.hid (show ((n : Nat) : Int).toNat = n from Int.toNat_natCast n)
      have hmk := run_make_row' (P := Tryd.prog) 37 39 (.int .i8 0) 1 Tryd.underlying37 infoI8 rfl .i64 .i64 n (by omega) (by omega)
      generalize hK : countP cls n [] = K at *
      have HK := Lib.hid hK; clear hK
      go_wp2_with fail
      refine CW.mono ?_
      rintro e w3 ⟨rfl, M', -, -, -, h3⟩
      go_wp2_with fail
      go_ret2
      exact ⟨by rw [HU3.out, HC.out, HK.out]; rfl, h3.drop.drop⟩
  · have d0 : (er != 0) = true := by simp [e0]
    have HU2 := Lib.hid (HU.out.trans (if_pos e0)); clear HU e0 hcok
    go_wp2_with fail
    go_ret2
    exact ⟨by rw [HU2.out]; rfl, h2.drop⟩
end Go.Proofs.YtnmkdhoijdoccaaDoor
