/- The reference's graph: meet, Cone. -/
import Derived.Test.YtjeopmiopinlgaaTsA
import Derived.Laws.Bits64
import Derived.Laws.Bits64b
import Derived.Test.YtjeopmiopinlgaaSL2
/- The reference's graph: And, bad, meet, Cone. -/
set_option linter.unusedVariables false
set_option linter.unusedSimpArgs false
namespace Go.Proofs.Ytjeopmiopinlgaa
open Go Go.RowKit SL

/-- What can be read of the reference's graph. -/
theorem rg_read {w0 w : World} {l : List HP} {r N : Nat} {ns : Nodes} (h : SL.St w0 (RGraph r (rnodes ns) N :: l) w) (h0 : ns.length ≠ 0) :
    ∃ gL c, w.cell? ⟨r, 0, none⟩ = some (.slice (some ⟨gL, 0, none⟩) ns.length c) ∧ w.cell? ⟨r, 1, none⟩ = some (.int .i64 (N : Nat)) ∧
      ∀ n, n < ns.length → w.cell? ⟨gL, n * 3, none⟩ = some (.int .i64 ((nodeM ns n).1 : Nat)) ∧ w.cell? ⟨gL, n * 3 + 1, none⟩ = some (.int .u32 ((nodeM ns n).2.1 : Nat)) ∧ w.cell? ⟨gL, n * 3 + 2, none⟩ = some (.int .u32 ((nodeM ns n).2.2 : Nat)) := by
  obtain ⟨vL, hs⟩ := St.rgraph h
  have hrl := rnodes_length ns
  obtain ⟨gL, c, hv⟩ := (hs.pull 1).arr_form (by omega)
  rw [hrl] at hv
  subst hv
  refine ⟨gL, c, hs.cell 0, hs.cell 1, fun n hn => ?_⟩
  have hx := rnodes_get hn
  exact ⟨((SL.St.pull hs 1).arr_cell _ _ hx 0 _ rfl).1, ((SL.St.pull hs 1).arr_cell _ _ hx 1 _ rfl).1, ((SL.St.pull hs 1).arr_cell _ _ hx 2 _ rfl).1⟩
theorem rg_slice {w0 w : World} {l : List HP} {r N : Nat} {ns : Nodes} (h : SL.St w0 (RGraph r (rnodes ns) N :: l) w) :
    ∃ A c, w.cell? ⟨r, 0, none⟩ = some (.slice A ns.length c) ∧ w.cell? ⟨r, 1, none⟩ = some (.int .i64 (N : Nat)) := by
  obtain ⟨vL, hs⟩ := St.rgraph h
  obtain ⟨A, c, hv, -, -⟩ := (hs.pull 1).rd
  rw [rnodes_length] at hv
  subst hv
  exact ⟨A, c, hs.cell 0, hs.cell 1⟩

theorem rAnd_walk (w0 w : World) (l : List HP) (r n : Nat) (ns : Nodes) (h : SL.St w0 (RGraph r (rnodes ns) n :: l) w) (hn : ns.length < 1073741824) (h0 : ns.length ≠ 0) (hu : Uniq ns) (a b : Nat) (ha : a < 2 * ns.length) (hb : b < 2 * ns.length) :
    Calls Try.prog 38 #[.pointer (some ⟨r, 0, none⟩), .int .u32 (a : Nat), .int .u32 (b : Nat)] w fun e w' =>
      e = .returned (.tuple #[.int .u32 ((andM ns a b).1 : Nat), .int .i64 0]) ∧ SL.St w0 (RGraph r (rnodes (andM ns a b).2) n :: l) w' := by
  have mm : ∀ x : Nat, x < 2 * ns.length → Calls Try.prog 61 #[.pointer (some ⟨r, 0, none⟩), .int .u32 (x : Nat)] w fun e w' => w = w' ∧ e = .returned (.bool true) := fun x hx => by
    have m := rmay_walk w0 w l r n _ h x (by omega)
    rwa [rnodes_length, decide_eq_true (show x / 2 < ns.length by omega)] at m
  go_enter Try.func38, Try.ntmps38
  go_wp2_with (first | (go_at_call 61; refine (mm _ (by omega)).mono ?_; rintro e w' ⟨rfl, rfl⟩) | (go_at_call 62; refine (rand_walk w0 _ l r n ns h hn h0 hu a b (by omega) (by omega)).mono ?_; rintro e w1 ⟨rfl, hs1⟩))
  go_ret2
  exact ⟨rfl, hs1⟩

set_option maxHeartbeats 1000000 in
theorem rbad_walk (w0 w : World) (l : List HP) (r N : Nat) (ns : Nodes) (h : SL.St w0 (RGraph r (rnodes ns) N :: l) w) (v : Value) (xs : List Nat) (hr : Rd (cNat .u32) v xs w) (hx : ∀ x ∈ xs, x < 4294967296) :
    Calls Try.prog 50 #[.pointer (some ⟨r, 0, none⟩), v] w fun e w' => w = w' ∧ e = .returned (.bool (xs.any fun x => !decide (x / 2 < ns.length))) := by
  obtain ⟨A, c, rfl, hm, hc⟩ := hr
  unfold maxLen at hm
  go_enter Try.func50, Try.ntmps50
  go_wp2_with fail
  go_loop [5] (fun i => ∃ k : Nat, k ≤ xs.length ∧ i = .int .i64 k ∧ (xs.take k).any (fun x => !decide (x / 2 < ns.length)) = false) (fun i => xs.length - (intOf i).toNat)
  case atStart => exact ⟨0, Nat.zero_le _, rfl, rfl⟩
  case round =>
    obtain ⟨k, hk, rfl, hall⟩ := hrel
    by_cases hlt : k < xs.length
    · obtain ⟨ad, rfl, hcell⟩ := rd_at hc k hlt
      have hb := hx _ (List.getElem_mem hlt)
      have HT := Lib.hid (show xs.take (k + 1) = xs.take k ++ [xs[k]] by rw [List.take_succ_eq_append_getElem hlt])
      have hmem : xs[k] ∈ xs := List.getElem_mem hlt
      clear hc hx
      generalize xs[k] = x at *
      have mx := rmay_walk w0 w l r N _ h x hb
      rw [rnodes_length] at mx
      by_cases hin : x / 2 < ns.length
      · rw [decide_eq_true hin] at mx
        have HA := Lib.hid hall; clear hall
        go_wp2_with (go_at_call 61; refine mx.mono ?_; rintro e w' ⟨rfl, rfl⟩)
        go_round
        case rel => exact ⟨k + 1, by omega, by go_num, by rw [HT.out, List.any_append, HA.out]; simp [hin]⟩
        case measure => simp [intOf]; omega
      · rw [decide_eq_false hin] at mx
        have HA := Lib.hid hall; clear hall
        go_wp2_with (go_at_call 61; refine mx.mono ?_; rintro e w' ⟨rfl, rfl⟩)
        go_ret
        have : (xs.any fun x => !decide (x / 2 < ns.length)) = true := by
          rw [List.any_eq_true]; exact ⟨x, hmem, by simp; omega⟩
        simp [this]
    · obtain rfl : k = xs.length := by omega
      rw [List.take_length] at hall
      go_wp2_with fail
      go_ret
      exact ⟨rfl, rfl⟩

theorem meet_mono (ns : Nodes) (m : Nat) : ∀ (f n : Nat) (s : CS), s.1.getD m true = true → (meet ns f n s).1.getD m true = true := by
  intro f
  induction f with
  | zero => intro n s h; exact h
  | succ f ih =>
    intro n s h
    simp only [meet]
    split
    · exact h
    have h1 : (s.1.set n true).getD m true = true := by rw [getD_set_true]; split <;> simp_all
    split
    · exact ih _ _ (ih _ _ h1)
    · exact h1
theorem meet_sum (ns : Nodes) : ∀ (f n : Nat) (s : CS), (meet ns f n s).2.length + (meet ns f n s).1.count false ≤ s.2.length + s.1.count false := by
  intro f
  induction f with
  | zero => intro n s; exact Nat.le_refl _
  | succ f ih =>
    intro n s
    simp only [meet]
    by_cases hb : s.1.getD n true = true
    · rw [if_pos hb]; exact Nat.le_refl _
    rw [if_neg hb]
    have hc := count_set (l := s.1) (n := n) (by cases h : s.1.getD n true <;> simp_all)
    split
    · have h1 := ih (opA ns n) (s.1.set n true, s.2)
      have h2 := ih (opB ns n) (meet ns f (opA ns n) (s.1.set n true, s.2))
      simp only [List.length_append, List.length_singleton] at *
      omega
    · simp only [List.length_append, List.length_singleton]; omega
def nd0 (ns : Nodes) (n : Nat) : Nat × Nat := ns.getD n (0, 0)
theorem nodeM_gate {ns : Nodes} {n : Nat} (hg : isGate ns n = true) : nodeM ns n = (2, nd0 ns n) := by
  unfold isGate at hg
  simp only [Bool.and_eq_true, bne_iff_ne, ne_eq] at hg
  unfold nodeM nd0
  rw [if_neg hg.1, if_neg hg.2]
theorem nodeM_not {ns : Nodes} {n : Nat} (hg : isGate ns n = false) : (nodeM ns n).1 ≠ 2 := by
  unfold isGate at hg
  unfold nodeM
  by_cases h0 : n = 0
  · rw [if_pos h0]; simp
  rw [if_neg h0]
  by_cases hm : (ns.getD n (0, 0)).1 = mark
  · rw [if_pos hm]; simp
  · simp [h0] at hg; exact absurd hg hm
end Go.Proofs.Ytjeopmiopinlgaa
set_option linter.unusedVariables false
set_option linter.unusedSimpArgs false
namespace Go.Proofs.Ytjeopmiopinlgaa
open Go Go.RowKit SL

theorem set0_get {s : List Bool} {n : Nat} (hn : n ≠ 0) (hl : n < s.length) {b : Bool} (h : s.getD n true = b) : (s.set 0 false)[n]? = some b := by
  rw [List.getElem?_set_ne (Ne.symm hn), List.getElem?_eq_getElem hl]
  rw [List.getD_eq_getElem?_getD, List.getElem?_eq_getElem hl] at h
  exact congrArg some h
theorem set0_comm (s : List Bool) (n : Nat) (hn : n ≠ 0) : (s.set n true).set 0 false = (s.set 0 false).set n true := List.set_comm _ _ hn

set_option maxRecDepth 100000 in
set_option maxHeartbeats 4000000 in
theorem rmeet_walk (w0 : World) (l : List HP) (r N : Nat) (ns : Nodes) (hw : Wf ns) (hlen : ns.length ≤ 1073741824) (f : Nat) : ∀ (n : Nat) (s : CS) (sv lv : Value) (w : World), n < f → n < ns.length → s.1.length = ns.length → s.1.getD 0 true = true → s.2.length + s.1.count false ≤ ns.length →
    SL.St w0 (Arr cBool 4 sv (s.1.set 0 false) :: Arr (cNat .i64) 3 lv s.2 :: RGraph r (rnodes ns) N :: l) w →
    Calls Try.prog 56 #[.pointer (some ⟨r, 0, none⟩), .int .i64 (n : Nat), sv, lv] w fun e w' =>
      ∃ vo, e = .returned vo ∧ SL.St w0 (Arr cBool 4 sv ((meet ns f n s).1.set 0 false) :: Arr (cNat .i64) 3 vo (meet ns f n s).2 :: RGraph r (rnodes ns) N :: l) w' := by
  induction f with
  | zero => intro n s sv lv w hf; omega
  | succ f ih =>
    intro n s sv lv w hf hn hsl h0 hsum h
    have hsl' : (s.1.set 0 false).length = ns.length := by rw [List.length_set]; exact hsl
    obtain ⟨gs, cs, hv⟩ := h.arr_form (by omega)
    rw [hsl'] at hv
    subst hv
    obtain ⟨Al, cl, hv, -, -⟩ := (h.pull 1).rd
    subst hv
    have hM : meet ns (f + 1) n s = if s.1.getD n true = true then s else if isGate ns n = true then ((meet ns f (opB ns n) (meet ns f (opA ns n) (s.1.set n true, s.2))).1, (meet ns f (opB ns n) (meet ns f (opA ns n) (s.1.set n true, s.2))).2 ++ [n]) else (s.1.set n true, s.2 ++ [n]) := rfl
    generalize meet ns (f + 1) n s = R at hM ⊢
    by_cases hb : s.1.getD n true = true
    · rw [if_pos hb] at hM
      subst hM
      by_cases hn0 : n = 0
      · have e0 : ((n : Int) == 0) = true := by simp [hn0]
        have HN := Lib.hid hn0; have HB := Lib.hid hb; have H0 := Lib.hid h0; have HS := Lib.hid hsl; have HS' := Lib.hid hsl'
        clear hn0 hb h0 hsl hsl'
        go_enter Try.func56, Try.ntmps56
        go_wp2_with fail
        go_ret
        exact ⟨_, rfl, h⟩
      · have e0 : ((n : Int) == 0) = false := by simp [hn0]
        have c0 := (h.arr_cell1 rfl n true (set0_get hn0 (by omega) hb) _ rfl).1
        have HN := Lib.hid hn0; have HB := Lib.hid hb; have H0 := Lib.hid h0; have HS := Lib.hid hsl; have HS' := Lib.hid hsl'
        clear hn0 hb h0 hsl hsl'
        go_enter Try.func56, Try.ntmps56
        go_wp2_with fail
        go_ret
        exact ⟨_, rfl, h⟩
    rw [if_neg hb] at hM
    have hb' : s.1.getD n true = false := by cases hq : s.1.getD n true <;> simp_all
    have hn0 : n ≠ 0 := fun e => by rw [e] at hb; exact hb h0
    have e0 : ((n : Int) == 0) = false := by simp [hn0]
    have hg0 := set0_get hn0 (by omega) hb'
    obtain ⟨c0, c1⟩ := h.arr_cell1 rfl n false hg0 _ rfl
    have hcnt := count_set hb'
    have h1 := h.arr_set1 rfl n (by rw [hsl']; exact hn) true _ rfl
    rw [← set0_comm _ _ hn0] at h1
    have hsl1 : (s.1.set n true).length = ns.length := by rw [List.length_set]; exact hsl
    have h01 : (s.1.set n true).getD 0 true = true := by rw [getD_set_true]; split <;> simp_all
    have hw2 := hw.2 n hn
    obtain ⟨u, lst⟩ := s
    simp only at *
    have hsum1 : lst.length + (u.set n true).count false + 1 ≤ ns.length := by omega
    clear hsum hcnt hg0 hb hb' hsl hsl' h0 hn0
    obtain ⟨vL, hR⟩ := St.rgraph (h.pull 2)
    obtain ⟨gL, cc, hv⟩ := (hR.pull 1).arr_form (by rw [rnodes_length]; omega)
    rw [rnodes_length] at hv
    subst hv
    have hx := rnodes_get hn
    have g0 : w.cell? ⟨r, 0, none⟩ = some (.slice (some ⟨gL, 0, none⟩) ns.length cc) := hR.cell 0
    have n0 := ((hR.pull 1).arr_cell _ _ hx 0 _ rfl).1
    have n1 := ((hR.pull 1).arr_cell _ _ hx 1 _ rfl).1
    have ne1 : gs ≠ r := hR.apart2 2 0 rfl claims_arr claims_blk
    have ne2 : gs ≠ gL := hR.apart2 2 1 rfl claims_arr claims_arr
    simp only [cNode, Nat.add_zero] at n0 n1
    clear hx hR h
    by_cases hg : isGate ns n = true
    · rw [if_pos hg] at hM
      obtain ⟨ho1, ho2⟩ := hw2 hg
      have hng := nodeM_gate hg
      have hA : ((nd0 ns n).1 : Int) / 2 = ((opA ns n : Nat) : Int) := by unfold nd0 opA; omega
      have hB : ((nd0 ns n).2 : Int) / 2 = ((opB ns n : Nat) : Int) := by unfold nd0 opB; omega
      have hs1 := meet_sum ns f (opA ns n) (u.set n true, lst)
      have hl1 := meet_length ns f (opA ns n) (u.set n true, lst)
      have hz1 := meet_mono ns 0 f (opA ns n) (u.set n true, lst) h01
      have hs2 := meet_sum ns f (opB ns n) (meet ns f (opA ns n) (u.set n true, lst))
      have hl2 := meet_length ns f (opB ns n) (meet ns f (opA ns n) (u.set n true, lst))
      rw [hng] at n0 n1
      simp only at n0 n1 hs1 hl1 hs2 hl2
      have IA := ih (opA ns n) (u.set n true, lst) (.slice (some ⟨gs, 0, none⟩) ns.length cs) (.slice Al lst.length cl)
      have IB := fun lv' w' => ih (opB ns n) (meet ns f (opA ns n) (u.set n true, lst)) (.slice (some ⟨gs, 0, none⟩) ns.length cs) lv' w'
      generalize meet ns f (opA ns n) (u.set n true, lst) = t at *
      generalize hTT : meet ns f (opB ns n) t = t' at *
      have hng' : nodeM ns n = (2, (nd0 ns n).1, (nd0 ns n).2) := hng
      clear hTT ih hg hng
      have hXb : (nd0 ns n).1 < 4294967294 := by unfold opA at ho1; unfold nd0; omega
      have hYb : (nd0 ns n).2 < 4294967294 := by unfold opB at ho2; unfold nd0; omega
      have HNG := Lib.hid hng'
      clear hng'
      generalize (nd0 ns n).1 = X at *
      generalize (nd0 ns n).2 = Y at *
      generalize opA ns n = oa at *
      generalize opB ns n = ob at *
      have HM := Lib.hid hM; have HS := Lib.hid hsl1; have H0 := Lib.hid h01; have HL := Lib.hid hl1; have HL2 := Lib.hid hl2; have HZ := Lib.hid hz1; have II := Lib.hid IA; have IJ := Lib.hid IB
      clear hM hsl1 h01 hl1 hl2 hz1 IA IB hw2
      go_enter Try.func56, Try.ntmps56
      go_wp2_with fail
      refine (II.out _ (by omega) (by omega) HS.out H0.out (by omega) h1).mono ?_
      rintro e w2 ⟨vo, rfl, h2⟩
      obtain ⟨Ao, co, rfl, -, -⟩ := (h2.pull 1).rd
      clear c0 c1 g0 n0 n1 h1 ne1 ne2
      obtain ⟨gL, cc, g0, -, gr⟩ := rg_read (h2.pull 2) hw.1
      obtain ⟨n0, n1, n2⟩ := gr n hn
      clear gr
      rw [HNG.out] at n0 n1 n2
      simp only at n0 n1 n2
      go_wp2_with fail
      refine (IJ.out _ _ (by omega) (by omega) (by rw [HL.out, HS.out]) HZ.out (by omega) h2).mono ?_
      rintro e w3 ⟨vo, rfl, h3⟩
      obtain ⟨Ap, cp, rfl, -, -⟩ := (h3.pull 1).rd
      clear g0 n0 n1 n2 h2
      have h4 := h3.alloc (.cells #[.int .i64 (n : Nat)] 3)
      go_wp2_with (first | (at_builtin; go_loud (refine wpList_app rfl _ _ rfl Try.underlying23 infoInt rfl (h4.pull 2) rfl (ys := [n]) rfl (h4.rd_blk (ys := [n]) 1 1 rfl rfl (by decide)) (by simp; omega) (by simp; omega) ?_); intro vo' w7 h7))
      go_ret
      rw [HM.out]
      exact ⟨_, rfl, h7.sel [2, 0, 3] 1⟩
    · rw [if_neg hg] at hM
      have hk := nodeM_not (ns := ns) (n := n) (by simpa using hg)
      have hk2 : (((nodeM ns n).1 : Int) == 2) = false := by simp; omega
      clear ih hk hg hw2
      generalize (nodeM ns n).1 = K at *
      have HM := Lib.hid hM; clear hM
      have h4 := h1.alloc (.cells #[.int .i64 (n : Nat)] 3)
      rw [World.size_setCell] at h4
      have HS := Lib.hid hsl1; have H0 := Lib.hid h01
      clear hsl1 h01
      go_enter Try.func56, Try.ntmps56
      go_wp2_with (first | (at_builtin; go_loud (refine wpList_app rfl _ _ rfl Try.underlying23 infoInt rfl (h4.pull 2) rfl (ys := [n]) rfl (h4.rd_blk (ys := [n]) 1 1 rfl rfl (by decide)) (by simp; omega) (by simp; omega) ?_); intro vo' w7 h7))
      go_ret
      rw [HM.out]
      exact ⟨_, rfl, h7.sel [2, 0, 3] 1⟩
end Go.Proofs.Ytjeopmiopinlgaa
