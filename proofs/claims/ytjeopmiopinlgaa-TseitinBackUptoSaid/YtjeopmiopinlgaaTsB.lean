/- The reference's graph: And, bad, meet, Cone. -/
import Derived.Test.YtjeopmiopinlgaaTsA
import Derived.Laws.Bits64
import Derived.Laws.Bits64b
set_option linter.unusedVariables false
set_option linter.unusedSimpArgs false
namespace Go.Proofs.Ytjeopmiopinlgaa
open Go Go.RowKit SL

/-- What can be read of the reference's graph. -/
theorem rg_read {w0 w : World} {l : List HP} {r N : Nat} {ns : Nodes} (h : SL.St w0 (RGraph r (rnodes ns) N :: l) w) (h0 : ns.length ≠ 0) :
    ∃ gL c, w.cell? ⟨r, 0, none⟩ = some (.slice (some ⟨gL, 0, none⟩) ns.length c) ∧ w.cell? ⟨r, 1, none⟩ = some (.int .i64 (N : Nat)) ∧
      ∀ n, n < ns.length → w.cell? ⟨gL, n * 3, none⟩ = some (.int .i64 ((nodeM ns n).1 : Nat)) ∧ w.cell? ⟨gL, n * 3 + 1, none⟩ = some (.int .u32 ((nodeM ns n).2.1 : Nat)) ∧ w.cell? ⟨gL, n * 3 + 2, none⟩ = some (.int .u32 ((nodeM ns n).2.2 : Nat)) := by
  obtain ⟨vL, hs⟩ := St.rgraph h
  have hrl := rnodes_length ns
  obtain ⟨gL, c, hv⟩ := (hs.pull 1).arr_form (by omega)
  rw [hrl] at hv
  subst hv
  refine ⟨gL, c, hs.cell 0, hs.cell 1, fun n hn => ?_⟩
  have hx := rnodes_get hn
  exact ⟨((SL.St.pull hs 1).arr_cell _ _ hx 0 _ rfl).1, ((SL.St.pull hs 1).arr_cell _ _ hx 1 _ rfl).1, ((SL.St.pull hs 1).arr_cell _ _ hx 2 _ rfl).1⟩
theorem rg_slice {w0 w : World} {l : List HP} {r N : Nat} {ns : Nodes} (h : SL.St w0 (RGraph r (rnodes ns) N :: l) w) :
    ∃ A c, w.cell? ⟨r, 0, none⟩ = some (.slice A ns.length c) ∧ w.cell? ⟨r, 1, none⟩ = some (.int .i64 (N : Nat)) := by
  obtain ⟨vL, hs⟩ := St.rgraph h
  obtain ⟨A, c, hv, -, -⟩ := (hs.pull 1).rd
  rw [rnodes_length] at hv
  subst hv
  exact ⟨A, c, hs.cell 0, hs.cell 1⟩

theorem rAnd_walk (w0 w : World) (l : List HP) (r n : Nat) (ns : Nodes) (h : SL.St w0 (RGraph r (rnodes ns) n :: l) w) (hn : ns.length < 1073741824) (h0 : ns.length ≠ 0) (hu : Uniq ns) (a b : Nat) (ha : a < 2 * ns.length) (hb : b < 2 * ns.length) :
    Calls Try.prog 38 #[.pointer (some ⟨r, 0, none⟩), .int .u32 (a : Nat), .int .u32 (b : Nat)] w fun e w' =>
      e = .returned (.tuple #[.int .u32 ((andM ns a b).1 : Nat), .int .i64 0]) ∧ SL.St w0 (RGraph r (rnodes (andM ns a b).2) n :: l) w' := by
  have mm : ∀ x : Nat, x < 2 * ns.length → Calls Try.prog 61 #[.pointer (some ⟨r, 0, none⟩), .int .u32 (x : Nat)] w fun e w' => w = w' ∧ e = .returned (.bool true) := fun x hx => by
    have m := rmay_walk w0 w l r n _ h x (by omega)
    rwa [rnodes_length, decide_eq_true (show x / 2 < ns.length by omega)] at m
  go_enter Try.func38, Try.ntmps38
  go_wp2_with (first | (go_at_call 61; refine (mm _ (by omega)).mono ?_; rintro e w' ⟨rfl, rfl⟩) | (go_at_call 62; refine (rand_walk w0 _ l r n ns h hn h0 hu a b (by omega) (by omega)).mono ?_; rintro e w1 ⟨rfl, hs1⟩))
  go_ret2
  exact ⟨rfl, hs1⟩

set_option maxHeartbeats 1000000 in
theorem rbad_walk (w0 w : World) (l : List HP) (r N : Nat) (ns : Nodes) (h : SL.St w0 (RGraph r (rnodes ns) N :: l) w) (v : Value) (xs : List Nat) (hr : Rd (cNat .u32) v xs w) (hx : ∀ x ∈ xs, x < 4294967296) :
    Calls Try.prog 50 #[.pointer (some ⟨r, 0, none⟩), v] w fun e w' => w = w' ∧ e = .returned (.bool (xs.any fun x => !decide (x / 2 < ns.length))) := by
  obtain ⟨A, c, rfl, hm, hc⟩ := hr
  unfold maxLen at hm
  go_enter Try.func50, Try.ntmps50
  go_wp2_with fail
  go_loop [5] (fun i => ∃ k : Nat, k ≤ xs.length ∧ i = .int .i64 k ∧ (xs.take k).any (fun x => !decide (x / 2 < ns.length)) = false) (fun i => xs.length - (intOf i).toNat)
  case atStart => exact ⟨0, Nat.zero_le _, rfl, rfl⟩
  case round =>
    obtain ⟨k, hk, rfl, hall⟩ := hrel
    by_cases hlt : k < xs.length
    · obtain ⟨ad, rfl, hcell⟩ := rd_at hc k hlt
      have hb := hx _ (List.getElem_mem hlt)
      have HT := Lib.hid (show xs.take (k + 1) = xs.take k ++ [xs[k]] by rw [List.take_succ_eq_append_getElem hlt])
      have hmem : xs[k] ∈ xs := List.getElem_mem hlt
      clear hc hx
      generalize xs[k] = x at *
      have mx := rmay_walk w0 w l r N _ h x hb
      rw [rnodes_length] at mx
      by_cases hin : x / 2 < ns.length
      · rw [decide_eq_true hin] at mx
        have HA := Lib.hid hall; clear hall
        go_wp2_with (go_at_call 61; refine mx.mono ?_; rintro e w' ⟨rfl, rfl⟩)
        go_round
        case rel => exact ⟨k + 1, by omega, by go_num, by rw [HT.out, List.any_append, HA.out]; simp [hin]⟩
        case measure => simp [intOf]; omega
      · rw [decide_eq_false hin] at mx
        have HA := Lib.hid hall; clear hall
        go_wp2_with (go_at_call 61; refine mx.mono ?_; rintro e w' ⟨rfl, rfl⟩)
        go_ret
        have : (xs.any fun x => !decide (x / 2 < ns.length)) = true := by
          rw [List.any_eq_true]; exact ⟨x, hmem, by simp; omega⟩
        simp [this]
    · obtain rfl : k = xs.length := by omega
      rw [List.take_length] at hall
      go_wp2_with fail
      go_ret
      exact ⟨rfl, rfl⟩

theorem meet_mono (ns : Nodes) (m : Nat) : ∀ (f n : Nat) (s : CS), s.1.getD m true = true → (meet ns f n s).1.getD m true = true := by
  intro f
  induction f with
  | zero => intro n s h; exact h
  | succ f ih =>
    intro n s h
    simp only [meet]
    split
    · exact h
    have h1 : (s.1.set n true).getD m true = true := by rw [getD_set_true]; split <;> simp_all
    split
    · exact ih _ _ (ih _ _ h1)
    · exact h1
theorem meet_sum (ns : Nodes) : ∀ (f n : Nat) (s : CS), (meet ns f n s).2.length + (meet ns f n s).1.count false ≤ s.2.length + s.1.count false := by
  intro f
  induction f with
  | zero => intro n s; exact Nat.le_refl _
  | succ f ih =>
    intro n s
    simp only [meet]
    by_cases hb : s.1.getD n true = true
    · rw [if_pos hb]; exact Nat.le_refl _
    rw [if_neg hb]
    have hc := count_set (l := s.1) (n := n) (by cases h : s.1.getD n true <;> simp_all)
    split
    · have h1 := ih (opA ns n) (s.1.set n true, s.2)
      have h2 := ih (opB ns n) (meet ns f (opA ns n) (s.1.set n true, s.2))
      simp only [List.length_append, List.length_singleton] at *
      omega
    · simp only [List.length_append, List.length_singleton]; omega
def nd0 (ns : Nodes) (n : Nat) : Nat × Nat := ns.getD n (0, 0)
theorem nodeM_gate {ns : Nodes} {n : Nat} (hg : isGate ns n = true) : nodeM ns n = (2, nd0 ns n) := by
  unfold isGate at hg
  simp only [Bool.and_eq_true, bne_iff_ne, ne_eq] at hg
  unfold nodeM nd0
  rw [if_neg hg.1, if_neg hg.2]
theorem nodeM_not {ns : Nodes} {n : Nat} (hg : isGate ns n = false) : (nodeM ns n).1 ≠ 2 := by
  unfold isGate at hg
  unfold nodeM
  by_cases h0 : n = 0
  · rw [if_pos h0]; simp
  rw [if_neg h0]
  by_cases hm : (ns.getD n (0, 0)).1 = mark
  · rw [if_pos hm]; simp
  · simp [h0] at hg; exact absurd hg hm
end Go.Proofs.Ytjeopmiopinlgaa
