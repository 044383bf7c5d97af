/- The laws' fit and true1. -/
import Derived.Test.YtjeopmiopinlgaaCnfU
import Derived.Test.YtjeopmiopinlgaaTsE
import Derived.Test.YtjeopmiopinlgaaTsU
set_option linter.unusedVariables false
set_option linter.unusedSimpArgs false
namespace Go.Proofs.Ytjeopmiopinlgaa
open Go Go.RowKit SL

def fitTo (n : Nat) (inn : List Bool) (j : Nat) : List Bool := inn.take j ++ List.replicate (n - j) false
def fitM (n : Nat) (inn : List Bool) : List Bool := fitTo n inn (min n inn.length)
theorem fitM_length (n : Nat) (inn : List Bool) : (fitM n inn).length = n := by simp [fitM, fitTo]; omega

set_option maxRecDepth 100000 in
set_option maxHeartbeats 2000000 in
theorem fit_walk (w0 w : World) (l : List HP) (r N : Nat) (ns : Nodes) (h : SL.St w0 (RGraph r (rnodes ns) N :: l) w) (hN : N ≤ 1073741824) (v : Value) (inn : List Bool) (hr : Ent l (Rd cBool v inn)) :
    Calls Try.prog 20 #[.pointer (some ⟨r, 0, none⟩), v] w fun e w' => ∃ vo, e = .returned vo ∧ SL.St w0 (Arr cBool 4 vo (fitM N inn) :: RGraph r (rnodes ns) N :: l) w' := by
  obtain ⟨A, c, hv, hm, -⟩ := hr.use h.drop
  subst hv
  unfold maxLen at hm
  obtain ⟨Ag, cg, -, g1⟩ := rg_slice h
  have hmk := run_make_row' (P := Try.prog) 48 4 (.bool false) 1 Try.underlying48 infoBool rfl .i64 .i64 N (by omega) (by omega)
  have h2 := (h.alloc (.cells (madeCells #[Value.bool false] N) 4)).arr_made (d := cBool) rfl (x := false) rfl (by unfold maxLen; omega)
  have hF : fitM N inn = fitTo N inn (min N inn.length) := rfl
  generalize fitM N inn = F at *
  have HF := Lib.hid hF; clear hF
  go_enter Try.func20, Try.ntmps20
  go_wp2_with fail
  generalize w.heap.size = gs at h2 ⊢
  generalize (World.alloc w _) = w2 at h2 ⊢
  clear hmk h g1
  go_loopg [6] (min N inn.length) (fun k i wr => ∃ j : Nat, j ≤ min N inn.length ∧ k = min N inn.length - j ∧ i = .int .i64 j ∧ SL.St w0 (Arr cBool 4 (.slice (some ⟨gs, 0, none⟩) N N) (fitTo N inn j) :: RGraph r (rnodes ns) N :: l) wr)
  case atStart => exact ⟨0, Nat.zero_le _, rfl, rfl, by simpa [fitTo] using h2⟩
  case round =>
    clear h2
    obtain ⟨j, hj, hgk, rfl, hsr⟩ := hrel
    subst hgk
    by_cases hlt : j < N
    · have d1 : decide ((j : Int) < (N : Int)) = true := decide_eq_true (by omega)
      by_cases hlt2 : j < inn.length
      · have d2 : decide ((j : Int) < (inn.length : Int)) = true := decide_eq_true (by omega)
        obtain ⟨A', c', hv, -, hc⟩ := hr.use (hsr.sel [] 2)
        obtain ⟨ad, hA', hcell⟩ := rd_at_bool hc j hlt2
        obtain rfl : A = some ad := by
          have : A' = A := by injection hv with h1; exact h1.symm
          rw [← this]; exact hA'
        have HT := Lib.hid (show fitTo N inn (j + 1) = (fitTo N inn j).set j inn[j] by
          unfold fitTo
          rw [List.take_succ_eq_append_getElem hlt2, List.set_append_right _ _ (by simp; omega)]
          rw [show j - (inn.take j).length = 0 by simp; omega, show N - j = (N - (j + 1)) + 1 by omega, List.replicate_succ]
          rw [List.set_cons_zero, List.append_assoc]; rfl)
        have hfl : (fitTo N inn j).length = N := by simp [fitTo]; omega
        have hf0 : (fitTo N inn j)[j]? = some false := by
          unfold fitTo
          rw [List.getElem?_append_right (by simp; omega), show j - (inn.take j).length = 0 by simp; omega, List.getElem?_replicate]
          simp; omega
        clear hc hv hA'
        generalize fitTo N inn j = z at *
        generalize inn[j] = b at *
        obtain ⟨c0, c1⟩ := hsr.arr_cell1 rfl j false hf0 _ rfl
        have HFL := Lib.hid hfl; clear hfl hf0
        have hset := hsr.arr_set1 rfl j (by rw [HFL.out]; exact hlt) b _ rfl
        go_wp2_with fail
        go_roundg (min N inn.length - (j + 1))
        case measure => omega
        case rel => exact ⟨j + 1, by omega, rfl, by go_num, by rw [HT.out]; exact hset⟩
      · have d2 : decide ((j : Int) < (inn.length : Int)) = false := decide_eq_false (by omega)
        have HF2 := Lib.hid (show F = fitTo N inn j by rw [HF.out, show min N inn.length = j by omega])
        have hge : inn.length ≤ j := by omega
        clear hlt2
        go_wp2_with fail
        go_ret
        exact ⟨_, rfl, by rw [HF2.out]; exact hsr⟩
    · have d1 : decide ((j : Int) < (N : Int)) = false := decide_eq_false (by omega)
      have HF2 := Lib.hid (show F = fitTo N inn j by rw [HF.out, show min N inn.length = j by omega])
      have hge : N ≤ j := by omega
      clear hlt
      go_wp2_with fail
      go_ret
      exact ⟨_, rfl, by rw [HF2.out]; exact hsr⟩

set_option maxHeartbeats 2000000 in
theorem true1_walk (w0 w : World) (l : List HP) (h : SL.St w0 l w) (vars : Int) (hv : I64 vars) (vf vm : Value) (cls : List (List Int)) (m : List Int) (hr : Ent l (Rd2 (cInt .i64) vf cls)) (hI : ∀ c ∈ cls, ∀ x ∈ c, I64 x) (hm : Ent l (Rd (cInt .i8) vm m)) (hb : ∀ x ∈ m, -128 ≤ x ∧ x ≤ 127) :
    Calls Try.prog 24 #[.agg #[.int .i64 vars, vf], vm] w fun e w' => e = .returned (.bool (decide ((underM vars cls m).2.2 = 0) && decide ((underM vars cls m).1 = 1) && decide ((m.length : Int) = vars))) ∧ SL.St w0 l w' := by
  have h1 := h.alloc (.cells #[.int .i64 vars, vf] 33)
  obtain ⟨A, c, rfl, hml, -⟩ := (hr.use h).at
  obtain ⟨Am, cm, hvm, -, -⟩ := hm.use h
  subst hvm
  have uw := runder_walk w0 _ _ h1 vars hv (.slice A cls.length c) _ cls m (Ent.tail hr) hI (Ent.tail hm) hb
  generalize underM vars cls m = U at *
  obtain ⟨x, place, er⟩ := U
  simp only at uw ⊢
  have q1 : (er == 0) = decide (er = 0) := by by_cases h : er = 0 <;> simp [h]
  have q2 : (x == 1) = decide (x = 1) := by by_cases h : x = 1 <;> simp [h]
  have q3 : ((m.length : Int) == vars) = decide ((m.length : Int) = vars) := by by_cases h : (m.length : Int) = vars <;> simp [h]
  generalize decide (er = 0) = b1 at *
  generalize decide (x = 1) = b2 at *
  generalize decide ((m.length : Int) = vars) = b3 at *
  clear h h1
  cases b1 <;> cases b2 <;> cases b3
  all_goals
    go_enter Try.func24, Try.ntmps24
    go_wp2_with fail
    refine uw.mono ?_
    rintro e w1 ⟨rfl, h2⟩
    have f0 : w1.cell? ⟨w.heap.size, 0, none⟩ = some (.int .i64 vars) := h2.cell 0
    go_wp2_with fail
    go_ret
    exact ⟨rfl, h2.drop⟩
end Go.Proofs.Ytjeopmiopinlgaa
