/- The program's sorted, normed, Norm. -/
import Derived.Test.YtnmkdhoijdoccaaDoorCnN0
import Derived.Test.YtnmkdhoijdoccaaDoorCnSl
import Derived.Test.YtnmkdhoijdoccaaDoorCnA
import Derived.Test.YtnmkdhoijdoccaaDoorCnK
set_option linter.unusedVariables false
set_option linter.unusedSimpArgs false
namespace Go.Proofs.YtnmkdhoijdoccaaDoor
open Go Go.RowKit Go.Sort SL

theorem order_reads (g off size : Nat) (w : World) : CmpReads Tryd.prog 67 #[] (fun x : L20 => Value.int .i64 x.1) cfL g off size w :=
  fun m os dk _ x y => (order_walk _ x.1 y.1 x.2 y.2).mono fun _ _ ⟨he, hw⟩ => ⟨he, 0, by rw [hw]; rfl⟩
theorem sortFunc_at (g c : Nat) (xs : List L20) (w0 w : World) (l : List HP) (h : SL.St w0 (Arr (cInt .i64) 3 (.slice (some ⟨g, 0, none⟩) xs.length c) (xs.map (·.1)) :: l) w) (hn : xs.length ≤ 1048576) :
    Calls Tryd.prog 75 #[.slice (some ⟨g, 0, none⟩) xs.length c, .func (.func 67) #[] #[]] w fun e w' => e = .returned (.tuple #[]) ∧ ∃ s : List Int, s.length = xs.length ∧ Lib.compact s = setM (xs.map (·.1)) ∧ SL.St w0 (Arr (cInt .i64) 3 (.slice (some ⟨g, 0, none⟩) xs.length c) s :: l) w' := by
  have eg : ∀ args w, (callFunc 67 args).run Tryd.prog w = .ok (.enter 67 args) w := enters_of Tryd.func67 (by kernel_rfl) rfl
  have hg : g < w.heap.size := by
    obtain ⟨-, _⟩ := h.arr_lt
    have ho := h.owns
    rcases ho.2 with ⟨h0, _⟩ | ⟨g', cap, cur, hv, _, hg, _⟩
    · cases h0
    · injection hv with h3
      injection h3 with h3
      injection h3 with h3
      subst h3
      exact (Array.getElem?_eq_some_iff.1 hg).1
  have hcon := Any.slices_SortFunc_total sortF (fun x : L20 => Value.int .i64 x.1) (fun _ => rfl) cfL swoL 67 #[] g 0 c xs.toArray w eg (order_reads g 0 _ w).lays (St.holdsL h) hg (by simp; omega) totL
  have hsz : xs.toArray.size = xs.length := by simp
  rw [hsz] at hcon
  change Calls Tryd.prog 75 _ _ _ at hcon
  refine hcon.mono ?_
  rintro e w' ⟨he, n, os, rfl⟩
  refine ⟨he, _, ?_, sort_compact xs, St.sorted h (by simp) n os⟩
  simp
theorem sortFunc_none (p : Option Addr) (c : Nat) (w : World) : Calls Tryd.prog 75 #[.slice p 0 c, .func (.func 67) #[] #[]] w fun e w' => e = .returned (.tuple #[]) ∧ w' = w := by
  have h := AnyF.slices_SortFunc_none (P := Tryd.prog) (ρ := sortF_ren) { sortF with } p c (.func (.func 67) #[] #[]) w
  change Calls Tryd.prog 75 _ _ _ at h
  exact h

set_option maxRecDepth 100000 in
theorem sorted_walk (w0 w : World) (l : List HP) (h : SL.St w0 l w) (v : Value) (c : List Int) (hr : Rd (cInt .i64) v c w) (hl : ∀ x ∈ c, litOk x = true) (hn : c.length ≤ 1048576) :
    Calls Tryd.prog 66 #[v, .func (.func 67) #[] #[]] w fun e w' => ∃ v' s, e = .returned v' ∧ s.length = c.length ∧ Lib.compact s = setM c ∧ SL.St w0 (Arr (cInt .i64) 3 v' s :: l) w' := by
  obtain ⟨xs, hxs⟩ := lits20 c hl
  have h1 := h.rows_nil (cInt .i64) 3
  have hr' := hr
  obtain ⟨A, cc, rfl, hm, -⟩ := hr
  have HXS := Lib.hid hxs
  clear hm hxs
  go_enter Tryd.func66, Tryd.ntmps66
  go_wp2_with (at_builtin; go_loud (refine wpList_app rfl _ _ rfl Tryd.underlying50 infoInt rfl h1 rfl (ys := c) rfl hr' (by simp; omega) (by simp; omega) ?_); go_loud (intro vo wA hB))
  rw [List.nil_append] at hB
  by_cases he : c = []
  · subst he
    obtain ⟨B, cb, rfl, -, -⟩ := hB.rd
    refine (sortFunc_none B cb wA).mono ?_
    rintro e w' ⟨rfl, rfl⟩
    go_wp2_with fail
    go_ret
    exact ⟨_, [], rfl, rfl, rfl, hB⟩
  · obtain ⟨g, cg, rfl⟩ := hB.arr_form (List.length_pos_iff.2 he)
    have S : Calls Tryd.prog 75 #[.slice (some ⟨g, 0, none⟩) c.length cg, .func (.func 67) #[] #[]] wA fun e w' => e = .returned (.tuple #[]) ∧ ∃ s : List Int, s.length = c.length ∧ Lib.compact s = setM c ∧ SL.St w0 (Arr (cInt .i64) 3 (.slice (some ⟨g, 0, none⟩) c.length cg) s :: l) w' := by
      have hxl : c.length = xs.length := by rw [← HXS.out, List.length_map]
      have := sortFunc_at g cg xs w0 wA l (by rw [HXS.out, ← hxl]; exact hB) (by omega)
      rw [HXS.out, ← hxl] at this
      exact this
    clear he hB
    refine S.mono ?_
    rintro e w' ⟨rfl, s, hs1, hs2, hs3⟩
    have HS1 := Lib.hid hs1
    clear hs1
    go_wp2_with fail
    go_ret
    exact ⟨_, s, rfl, HS1.out, hs2, hs3⟩

set_option maxRecDepth 100000 in
theorem compact_at (w0 w : World) (l : List HP) (v : Value) (s : List Int) (h : SL.St w0 (Arr (cInt .i64) 3 v s :: l) w) (hn : s.length ≤ 1048576) :
    Calls Tryd.prog 68 #[v] w fun e w' => ∃ v', e = .returned v' ∧ SL.St w0 (Arr (cInt .i64) 3 v' (Lib.compact s) :: l) w' := by
  by_cases he : s.length = 0
  · obtain rfl : s = [] := List.eq_nil_of_length_eq_zero he
    obtain ⟨B, cb, rfl, -, -⟩ := h.rd
    have hc := Any.slices_Compact_int_empty comp20 B cb w
    change Calls Tryd.prog 68 _ _ _ at hc
    refine hc.mono ?_
    rintro e w' ⟨rfl, rfl⟩
    exact ⟨_, rfl, h⟩
  · obtain ⟨g, cg, rfl⟩ := h.arr_form (by omega)
    obtain ⟨-, q1, q2⟩ := h.arr_lt
    have hc := Any.slices_Compact_int comp20 g 0 cg s w (St.holdsI h) (by omega) q1
    change Calls Tryd.prog 68 _ _ _ at hc
    refine hc.mono ?_
    rintro e w' ⟨rfl, q, rfl⟩
    have hk := compact_len s
    have h2 := St.laid (ys := Lib.compact s ++ List.replicate (s.length - (Lib.compact s).length) 0) h (by simp; omega) q
    have h3 := h2.arr_take (Lib.compact s).length hk
    rw [List.take_left] at h3
    exact ⟨_, rfl, h3⟩
theorem setM_lits {c : List Int} (hl : ∀ x ∈ c, litOk x = true) : ∀ x ∈ setM c, litOk x = true := fun x hx => hl x (setM_mem.1 hx)
set_option maxRecDepth 100000 in
set_option maxHeartbeats 4000000 in
theorem normed_walk (w0 w : World) (l : List HP) (h : SL.St w0 l w) (v : Value) (c : List Int) (hr : Rd (cInt .i64) v c w) (hl : ∀ x ∈ c, litOk x = true) (hn : c.length ≤ 1048576) :
    Calls Tryd.prog 46 #[v] w fun e w' => ∃ v', e = .returned (.tuple #[v', .bool (twoM (setM c))]) ∧ SL.St w0 (Arr (cInt .i64) 3 v' (setM c) :: l) w' := by
  have SW := sorted_walk w0 w l h v c hr hl hn
  have HT := Lib.hid (adj_two (setM_srt c) fun x hx e => by have := setM_lits hl x hx; rw [e] at this; cases this)
  have hSl := setM_len c
  have HB := Lib.hid (show ∀ x ∈ setM c, -1048576 ≤ x ∧ x ≤ 1048576 from fun x hx => (litOk_iff.1 (setM_lits hl x hx)).2)
  clear hl hr h
  generalize hS : setM c = S at *
  clear hS
  generalize hT : twoM S = T at *
  clear hT
  go_enter Tryd.func46, Tryd.ntmps46
  go_wp2_with fail
  refine SW.mono ?_
  rintro e w1 ⟨v1, s, rfl, hs1, hs2, hs3⟩
  clear SW
  go_wp2_with fail
  refine (compact_at w0 w1 l v1 s hs3 (by omega)).mono ?_
  rintro e w2 ⟨v2, rfl, h2⟩
  rw [hs2] at h2
  clear hs3 hs2
  obtain ⟨B, cb, rfl, hm, hc⟩ := h2.rd
  unfold maxLen at hm
  have H2 := Lib.hid h2; clear h2 hs1
  go_wp2_with fail
  go_loopg [5] (S.length + 1) (fun k i wr => ∃ u0 t q : Nat, u0 = t + 1 ∧ t ≤ S.length ∧ k = S.length + 1 - t ∧ i = .int .i64 u0 ∧ (∀ u, u < t → S.getD (u + 1) 0 ≠ -(S.getD u 0)) ∧ wr = w2.drewN q)
  case atStart => exact ⟨1, 0, 0, rfl, Nat.zero_le _, rfl, rfl, fun u hu => by omega, rfl⟩
  case round =>
    obtain ⟨u0, t, q, hu0, ht, hgk, rfl, hno, hwr⟩ := hrel
    subst hgk
    have HNO := Lib.hid hno; clear hno
    by_cases hlt : t + 1 < S.length
    · have d1 : u0 < S.length := by omega
      have e1 : ((u0 : Int) - 1).toNat = t := by omega
      have e2 : 0 ≤ (u0 : Int) - 1 := by omega
      have e3 : (u0 : Int) - 1 < (S.length : Int) := by omega
      obtain ⟨ad, rfl, k1⟩ := rd_at_int hc (t + 1) hlt
      obtain ⟨ad', he, k0⟩ := rd_at_int hc t (by omega)
      injection he with he; subst he
      have b1 := HB.out _ (List.getElem_mem hlt)
      have b0 := HB.out _ (List.getElem_mem (show t < S.length by omega))
      have HG := Lib.hid (show S.getD (t + 1) 0 = S[t + 1] ∧ S.getD t 0 = S[t] from ⟨by simp [List.getD_eq_getElem?_getD, hlt], by simp [List.getD_eq_getElem?_getD, show t < S.length by omega]⟩)
      have HLT := Lib.hid hlt
      generalize S[t + 1] = x1 at *
      generalize S[t]'(by omega) = x0 at *
      have c1 : wr.cell? (ad.add u0) = some (.int .i64 x1) := by rw [hwr, hu0]; exact k1
      have HU := Lib.hid hu0; clear hu0 hlt
      have c0 : wr.cell? (ad.add t) = some (.int .i64 x0) := by rw [hwr]; exact k0
      have HWR := Lib.hid hwr; clear hwr k1 k0 hc
      obtain ⟨b1a, b1b⟩ := b1
      obtain ⟨b0a, b0b⟩ := b0
      by_cases hx : x1 = -x0
      · have d : (x1 == -x0) = true := by simp [hx]
        have HTT := Lib.hid (show T = true by rw [← HT.out]; exact adjM_iff.2 ⟨t, HLT.out, by rw [HG.out.1, HG.out.2]; exact hx⟩)
        clear hx
        go_wp2_with fail
        go_quiet (fail)
        go_wp2_with fail
        go_ret2
        refine ⟨_, by rw [HTT.out]; rfl, ?_⟩
        rw [HWR.out]
        exact (H2.out.drewN _).drewN _
      · have d : (x1 == -x0) = false := by simp [hx]
        have HX := Lib.hid hx; clear hx
        go_wp2_with fail
        go_quiet (fail)
        go_wp2_with fail
        go_roundg (S.length + 1 - (t + 1))
        case measure => have := HLT.out; omega
        case rel =>
          refine ⟨u0 + 1, t + 1, _, by rw [HU.out], by have := HLT.out; omega, rfl, by go_num, fun u hu => ?_, by rw [HWR.out]; exact World.drewN_drewN _ _ _⟩
          by_cases e : u = t
          · subst e; rw [HG.out.1, HG.out.2]; exact HX.out
          · exact HNO.out u (by omega)
    · have d1 : ¬ u0 < S.length := by omega
      have HTF := Lib.hid (show T = false by
        rw [← HT.out]
        cases ha : adjM S with
        | false => rfl
        | true =>
          obtain ⟨i, h1, h2⟩ := adjM_iff.1 ha
          exact absurd h2 (HNO.out i (by omega)))
      have HWR := Lib.hid hwr; clear hwr hc
      go_wp2_with fail
      go_ret2
      refine ⟨_, by rw [HTF.out]; rfl, ?_⟩
      rw [HWR.out]
      exact H2.out.drewN _
end Go.Proofs.YtnmkdhoijdoccaaDoor
