/- The reference's graph: Cone, of, Values, Eval. -/
import Derived.Test.YtjeopmiopinlgaaTsC
import Derived.Test.YtjeopmiopinlgaaAigX
import Derived.Test.YtjeopmiopinlgaaAigI
set_option linter.unusedVariables false
set_option linter.unusedSimpArgs false
namespace Go.Proofs.Ytjeopmiopinlgaa
open Go Go.RowKit SL

theorem set0_start (ns : Nodes) : (cone0 ns).1.set 0 false = List.replicate ns.length false := by
  unfold cone0
  rw [List.set_set]
  cases h : ns.length with
  | zero => rfl
  | succ n => simp [List.replicate_succ]
theorem meetAll_zero (ns : Nodes) (l : List Nat) (s : CS) (h : s.1.getD 0 true = true) : (meetAll ns l s).1.getD 0 true = true := by
  induction l generalizing s with
  | nil => exact h
  | cons r l ih => simp only [meetAll, List.foldl_cons] at *; exact ih _ (meet_mono ns 0 _ _ s h)
theorem meetAll_sum (ns : Nodes) (l : List Nat) (s : CS) : (meetAll ns l s).2.length + (meetAll ns l s).1.count false ≤ s.2.length + s.1.count false := by
  induction l generalizing s with
  | nil => exact Nat.le_refl _
  | cons r l ih => simp only [meetAll, List.foldl_cons] at *; exact Nat.le_trans (ih _) (meet_sum ns _ _ s)
theorem cone0_zero (ns : Nodes) (h : ns.length ≠ 0) : (cone0 ns).1.getD 0 true = true := by
  simp [cone0, List.getD_eq_getElem?_getD, Nat.pos_of_ne_zero h]
theorem any_false {xs : List Nat} {n : Nat} (h : ∀ y ∈ xs, y < 2 * n) : (xs.any fun x => !decide (x / 2 < n)) = false := by
  rw [List.any_eq_false]; intro y hy; have := h y hy; simp; omega
theorem any_true {xs : List Nat} {n : Nat} (h : ¬ ∀ y ∈ xs, y < 2 * n) : (xs.any fun x => !decide (x / 2 < n)) = true := by
  rw [List.any_eq_true]
  simp only [Classical.not_forall] at h
  obtain ⟨y, hy, h⟩ := h
  exact ⟨y, hy, by simp; omega⟩

set_option maxRecDepth 100000 in
set_option maxHeartbeats 2000000 in
theorem rCone_walk (w0 w : World) (l : List HP) (r N : Nat) (ns : Nodes) (h : SL.St w0 (RGraph r (rnodes ns) N :: l) w) (hw : Wf ns) (hlen : ns.length ≤ 1073741824) (v : Value) (roots : List Nat) (hr : Ent l (Rd (cNat .u32) v roots)) (hx : ∀ y ∈ roots, y < 2 * ns.length) :
    Calls Try.prog 29 #[.pointer (some ⟨r, 0, none⟩), v] w fun e w' =>
      ∃ vo, e = .returned (.tuple #[vo, .int .i64 0]) ∧ SL.St w0 (Arr (cNat .i64) 3 vo (coneM ns roots) :: RGraph r (rnodes ns) N :: l) w' := by
  have hbad := rbad_walk w0 w l r N ns h v roots (hr.use h.drop) (fun y hy => by have := hx y hy; omega)
  rw [any_false hx] at hbad
  obtain ⟨A, c, hv, hm, -⟩ := hr.use h.drop
  subst hv
  unfold maxLen at hm
  obtain ⟨Ag, cg, g0, -⟩ := rg_slice h
  have hmk := run_make_row' (P := Try.prog) 48 4 (.bool false) 1 Try.underlying48 infoBool rfl .i64 .i64 ns.length (by omega) (by omega)
  have h1 := ((h.alloc (.cells (madeCells #[Value.bool false] ns.length) 4)).arr_made (d := cBool) rfl (x := false) rfl (by unfold maxLen; omega)).rows_nil (cNat .i64) 3
  have h2 := h1.sel [1, 0]
  clear h1
  go_enter Try.func29, Try.ntmps29
  go_wp2_with (go_at_call 50; refine hbad.mono ?_; rintro e w' ⟨rfl, rfl⟩)
  generalize w.heap.size = gs at h2 ⊢
  generalize (w.alloc _) = w2 at h2 ⊢
  clear hmk h g0 hbad
  rw [← set0_start] at h2
  have h0 := cone0_zero ns hw.1
  have hc0 : (cone0 ns).1.length = ns.length := by simp [cone0]
  have hcc := cone0_count ns
  simp only [meetAll, List.foldl_nil] at hcc
  have HC := Lib.hid hc0; have HZ := Lib.hid h0; clear hc0 h0
  go_loopg [6, 8] roots.length (fun k vo i wr => ∃ j : Nat, j ≤ roots.length ∧ k = roots.length - j ∧ i = .int .i64 j ∧ SL.St w0 (Arr cBool 4 (.slice (some ⟨gs, 0, none⟩) ns.length ns.length) ((meetAll ns (roots.take j) (cone0 ns)).1.set 0 false) :: Arr (cNat .i64) 3 vo (meetAll ns (roots.take j) (cone0 ns)).2 :: RGraph r (rnodes ns) N :: l) wr)
  case atStart => exact ⟨0, Nat.zero_le _, rfl, rfl, h2⟩
  case round =>
    clear h2
    obtain ⟨j, hj, hgk, rfl, hsr⟩ := hrel
    subst hgk
    by_cases hlt : j < roots.length
    · obtain ⟨A', c', hv, -, hc⟩ := hr.use (hsr.sel [] 3)
      obtain ⟨ad, hA', hcell⟩ := rd_at hc j hlt
      obtain rfl : A = some ad := by
        have : A' = A := by injection hv with h1; exact h1.symm
        rw [← this]; exact hA'
      have HT := Lib.hid (show meetAll ns (roots.take (j + 1)) (cone0 ns) = meet ns ns.length (roots[j] / 2) (meetAll ns (roots.take j) (cone0 ns)) by rw [List.take_succ_eq_append_getElem hlt, meetAll_snoc])
      have hb := hx _ (List.getElem_mem hlt)
      have hl1 := meetAll_length ns (roots.take j) (cone0 ns)
      have hz1 := meetAll_zero ns (roots.take j) (cone0 ns) HZ.out
      have hs1 := meetAll_sum ns (roots.take j) (cone0 ns)
      have hq : ((roots[j] : Nat) : Int) / 2 = ((roots[j] / 2 : Nat) : Int) := by omega
      have hqb : roots[j] / 2 < ns.length := by omega
      generalize meetAll ns (roots.take j) (cone0 ns) = s at *
      clear hc hv hA'
      generalize hqq : roots[j] / 2 = q at *
      clear hqq
      generalize roots[j] = x at *
      have HL := Lib.hid hl1; have HZ1 := Lib.hid hz1
      clear hl1 hz1
      have hmt := rmeet_walk w0 l r N ns hw hlen ns.length q s (.slice (some ⟨gs, 0, none⟩) ns.length ns.length) _ wr hqb hqb (by rw [HL.out, HC.out]) HZ1.out (by omega) hsr
      go_wp2_with (go_at_call 56; refine hmt.mono ?_; rintro e w' ⟨vo', rfl, h3⟩)
      go_roundg (roots.length - (j + 1))
      case measure => omega
      case rel => exact ⟨j + 1, by omega, rfl, by go_num, by rw [HT.out]; exact h3⟩
    · obtain rfl : j = roots.length := by omega
      rw [List.take_length] at hsr
      go_wp2_with fail
      go_ret2
      exact ⟨_, rfl, hsr.drop⟩
theorem rCone_bad (w0 w : World) (l : List HP) (r N : Nat) (ns : Nodes) (h : SL.St w0 (RGraph r (rnodes ns) N :: l) w) (v : Value) (roots : List Nat) (hr : Ent l (Rd (cNat .u32) v roots)) (hxb : ∀ y ∈ roots, y < 4294967296) (hx : ¬ ∀ y ∈ roots, y < 2 * ns.length) :
    Calls Try.prog 29 #[.pointer (some ⟨r, 0, none⟩), v] w fun e w' =>
      e = .returned (.tuple #[.slice none 0 0, .int .i64 100]) ∧ SL.St w0 (RGraph r (rnodes ns) N :: l) w' := by
  have hbad := rbad_walk w0 w l r N ns h v roots (hr.use h.drop) hxb
  rw [any_true hx] at hbad
  clear hx hxb
  go_enter Try.func29, Try.ntmps29
  go_wp2_with (go_at_call 50; refine hbad.mono ?_; rintro e w' ⟨rfl, rfl⟩)
  go_ret2
  exact ⟨rfl, h⟩

theorem rof_walk (w : World) (v : Value) (vs : List Bool) (hr : Rd cBool v vs w) (x : Nat) (hx : x / 2 < vs.length) (hb : x < 4294967296) :
    Calls Try.prog 52 #[v, .int .u32 (x : Nat)] w fun e w' => w = w' ∧ e = .returned (.bool (vs.getD (x / 2) false != (x % 2 == 1))) := by
  obtain ⟨A, c, rfl, -, hc⟩ := hr
  obtain ⟨ad, rfl, hcell⟩ := rd_at_bool hc _ hx
  have hg : vs.getD (x / 2) false = vs[x / 2] := by simp [List.getD_eq_getElem?_getD, hx]
  rw [hg]
  have hq : ((x : Nat) : Int) / 2 = ((x / 2 : Nat) : Int) := by omega
  have hm : (((x : Nat) : Int) % 2 == 1) = (x % 2 == 1) := by
    have : x % 2 = 0 ∨ x % 2 = 1 := by omega
    have e : ((x : Int)) % 2 = ((x % 2 : Nat) : Int) := by omega
    rw [e]
    rcases this with h1 | h1 <;> rw [h1] <;> rfl
  clear hc hg
  generalize vs[x / 2] = b at *
  generalize (x % 2 == 1) = m at *
  generalize x / 2 = q at *
  go_enter Try.func52, Try.ntmps52
  go_wp2
  go_ret
  exact ⟨rfl, rfl⟩
end Go.Proofs.Ytjeopmiopinlgaa
