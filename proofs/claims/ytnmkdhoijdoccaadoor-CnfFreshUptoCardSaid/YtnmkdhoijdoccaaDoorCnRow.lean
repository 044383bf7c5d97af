/- The law's row: an assignment of so many variables, all of them. -/
import Derived.Test.YtnmkdhoijdoccaaDoorCnEl
import Derived.Test.YtnmkdhoijdoccaaDoorCnI
import Derived.Deep.LoopGhost
set_option linter.unusedVariables false
set_option linter.unusedSimpArgs false
namespace Go.Proofs.YtnmkdhoijdoccaaDoor
open Go Go.RowKit SL

/-- An assignment of all n variables. -/
def Whole1 (n : Nat) (m : List Int) : Prop := m.length = n ∧ ∀ y ∈ m, y = 1 ∨ y = -1
theorem whole1_full {vars : Int} {cls : List (List Int)} {m : List Int} (hc : (checkM vars cls).2 = 0) (hm : Whole1 vars.toNat m) : FullM cls m := fun c hcc x hx => by
  obtain ⟨h1, h2, h3, h4⟩ := checkM_ok hc
  obtain ⟨k1, k2⟩ := (h4 c hcc).2 x hx
  obtain ⟨q1, q2, q3⟩ := litOk_iff.1 k1
  have hv : 1 ≤ varM x := by unfold varM; split <;> omega
  have hi : (varM x).toNat - 1 < m.length := by rw [hm.1]; omega
  have hg : m.getD ((varM x).toNat - 1) 0 = m[(varM x).toNat - 1] := by simp [List.getD_eq_getElem?_getD, hi]
  have hy := hm.2 _ (List.getElem_mem hi)
  unfold ofM
  rw [if_pos ⟨k1, by rw [hm.1]; omega⟩]
  simp only [hg]
  rw [if_pos hy]
  split
  · rcases hy with h | h <;> rw [h] <;> simp
  · exact hy
theorem whole1_bytes {n : Nat} {m : List Int} (hm : Whole1 n m) : ∀ x ∈ m, -128 ≤ x ∧ x ≤ 127 := fun x hx => by rcases hm.2 x hx with h | h <;> omega
theorem underM_und {vars : Int} {cls : List (List Int)} (h : (checkM vars cls).2 = 0) (m : List Int) : (underM vars cls m).1 = undV cls m ∧ (underM vars cls m).2.2 = 0 := by
  refine ⟨underM_val h m, ?_⟩
  have key : ∀ (cls : List (List Int)) (i : Nat) (o : Int), (underFrom m i o cls).2.2 = 0 := by
    intro cls
    induction cls with
    | nil => intro i o; unfold underFrom; split <;> rfl
    | cons c cs ih => intro i o; unfold underFrom; split <;> first | rfl | exact ih _ _
  unfold underM
  rw [if_neg (by rw [h]; decide)]
  exact key _ _ _

set_option maxRecDepth 100000 in
set_option maxHeartbeats 4000000 in
theorem row_walk (w0 w : World) (l : List HP) (h : SL.St w0 l w) (n : Int) (h0 : 0 ≤ n) (h1 : n ≤ 1048576) (b : Int) (hb0 : 0 ≤ b) (hb1 : b < 18446744073709551616) :
    Calls Tryd.prog 18 #[.int .i64 n, .int .u64 b] w fun e w' => ∃ v' m, e = .returned v' ∧ Whole1 n.toNat m ∧ SL.St w0 (Arr (cInt .i8) 39 v' m :: l) w' := by
  obtain ⟨n, rfl⟩ : ∃ k : Nat, n = k := ⟨n.toNat, by omega⟩
  have hn : n ≤ 1048576 := by omega
  rw [Int.toNat_natCast]
  have hmk := run_make_row' (P := Tryd.prog) 37 39 (.int .i8 0) 1 Tryd.underlying37 infoI8 rfl .i64 .i64 n (by omega) (by omega)
  have hs1 := (h.alloc (.cells (madeCells #[Value.int .i8 0] n) 39)).arr_made (d := cInt .i8) rfl (x := 0) rfl (by unfold maxLen; omega)
  clear h
  go_enter Tryd.func18, Tryd.ntmps18
  go_wp2_with fail
  generalize w.heap.size = kv at hs1 ⊢
  generalize w.alloc _ = w1 at hs1 ⊢
  clear hmk
  go_loopg [6] n (fun k i wr => ∃ (j : Nat) (m : List Int), j ≤ n ∧ k = n - j ∧ i = .int .i64 j ∧ m.length = n ∧ (∀ t y, t < j → m[t]? = some y → y = 1 ∨ y = -1) ∧ SL.St w0 (Arr (cInt .i8) 39 (.slice (some ⟨kv, 0, none⟩) n n) m :: l) wr)
  case atStart => exact ⟨0, List.replicate n 0, Nat.zero_le _, rfl, rfl, by simp, fun t y ht => by omega, hs1⟩
  case round =>
    clear hs1
    obtain ⟨j, m, hj, hgk, rfl, hml, hmv, hsr⟩ := hrel
    subst hgk
    have HMV := Lib.hid hmv; clear hmv
    have HML := Lib.hid hml; clear hml
    by_cases hlt : j < n
    · have hvn : m[j]? = some (m[j]'(by have := HML.out; omega)) := List.getElem?_eq_getElem _
      obtain ⟨cn0, cf0⟩ := hsr.arr_cell1 rfl j _ hvn _ rfl
      have hs2 := hsr.arr_set1 rfl j (by have := HML.out; omega) (-1) _ rfl
      have hvn2 : (m.set j (-1))[j]? = some (-1) := by simp [show j < m.length by have := HML.out; omega]
      obtain ⟨cn1, cf1⟩ := hs2.arr_cell1 rfl j _ hvn2 _ rfl
      have hs3 := hs2.arr_set1 rfl j (by have := HML.out; simp; omega) 1 _ rfl
      have HA := Lib.hid (show ∀ e : Int, e = 1 ∨ e = -1 → ∀ t y, t < j + 1 → ((m.set j e))[t]? = some y → y = 1 ∨ y = -1 from fun e he t y ht hy => by
        rw [List.getElem?_set] at hy
        split at hy
        · split at hy
          · injection hy with hy; rw [← hy]; exact he
          · cases hy
        · exact HMV.out t y (by omega) hy)
      have HB := Lib.hid (show ∀ e : Int, e = 1 ∨ e = -1 → ∀ t y, t < j + 1 → ((m.set j (-1)).set j e)[t]? = some y → y = 1 ∨ y = -1 from fun e he => by rw [List.set_set]; exact HA.out e he)
      by_cases h64 : j < 64
      · have hsh : (j : Int) < 64 := by omega
        obtain ⟨C, hC⟩ : ∃ C : Bool, C = (bits .and .u64 (b / (2 : Int) ^ j) 1 == 1) := ⟨_, rfl⟩
        cases C with
        | true =>
          replace hC := hC.symm
          go_wp2_with fail
          go_roundg (n - (j + 1))
          case measure => omega
          case rel => exact ⟨j + 1, _, by omega, rfl, by go_num, by rw [List.length_set, List.length_set]; exact HML.out, HB.out 1 (.inl rfl), hs3⟩
        | false =>
          replace hC := hC.symm
          go_wp2_with fail
          go_roundg (n - (j + 1))
          case measure => omega
          case rel => exact ⟨j + 1, _, by omega, rfl, by go_num, by rw [List.length_set]; exact HML.out, HA.out (-1) (.inr rfl), hs2⟩
      · have hsh : ¬ (j : Int) < 64 := by omega
        go_wp2_with fail
        go_roundg (n - (j + 1))
        case measure => omega
        case rel => exact ⟨j + 1, _, by omega, rfl, by go_num, by rw [List.length_set]; exact HML.out, HA.out (-1) (.inr rfl), hs2⟩
    · obtain rfl : j = n := by omega
      go_wp2_with fail
      go_ret
      refine ⟨_, m, rfl, ⟨HML.out, fun y hy => ?_⟩, hsr⟩
      obtain ⟨t, ht, rfl⟩ := List.getElem_of_mem hy
      exact HMV.out t _ (by have := HML.out; omega) (List.getElem?_eq_getElem ht)
end Go.Proofs.YtnmkdhoijdoccaaDoor
