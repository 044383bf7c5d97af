/- Is a formula that was lent as it was? -/
import Derived.Test.YtnmkdhoijdoccaaDoorCnLd
set_option linter.unusedVariables false
set_option linter.unusedSimpArgs false
namespace Go.Proofs.YtnmkdhoijdoccaaDoor
open Go Go.RowKit SL

set_option maxRecDepth 100000 in
set_option maxHeartbeats 8000000 in
theorem whole_walk (w : World) (n : Int) (v vf : Value) (cls : List (List Int)) (hL : RdLF v cls w) (hr : Rd2 (cInt .i64) vf cls w) :
    Calls Tryd.prog 15 #[.agg #[.int .i64 n, v], .agg #[.int .i64 n, vf]] w fun e w' => e = .returned (.bool true) ∧ ∃ q, w' = ((w.alloc (.cells #[.int .i64 n, v] 24)).alloc (.cells #[.int .i64 n, vf] 24)).drewN q := by
  have h2 := ((St.start w).alloc (.cells #[.int .i64 n, v] 24)).alloc (.cells #[.int .i64 n, vf] 24)
  have hk := cells_kept (W := w) (w := (w.alloc (.cells #[.int .i64 n, v] 24)).alloc (.cells #[.int .i64 n, vf] 24)) (fun b o hb => ((h2.pull 2).old.block b (hl_lt hb)).trans hb)
  have hL2 := RdLF.mono hL hk
  have hr2 := hr.mono hk
  obtain ⟨ss, z, g, c, hsl, rfl, hc1, hc2, hrs, hrz, hin⟩ := hL2
  obtain ⟨D, d, rfl, hm2, hcc⟩ := hr2.at
  unfold maxLen at hc2 hm2
  simp only [World.size_alloc] at h2
  have hne : ((cls.length : Int) != (cls.length : Int)) = false := by simp
  have e1 : (n != n) = false := by simp
  have HSL := Lib.hid hsl
  have hp := hrs
  obtain ⟨A1, c1, hv, -, hat⟩ := hrs
  rw [show (ss ++ [z]).length = cls.length + 1 by simp [hsl]] at hv
  obtain ⟨rfl, rfl⟩ : A1 = some ⟨g, 0, none⟩ ∧ c1 = c := by injection hv with a1 a2 a3; exact ⟨a1.symm, a3.symm⟩
  have hadd : ∀ n, (⟨g, 0, none⟩ : Addr).add n = ⟨g, n, none⟩ := fun n => by unfold Addr.add; split <;> simp_all
  have HAT := Lib.hid (show ∀ i s, (ss ++ [z])[i]? = some s → World.cell? ((w.alloc (.cells #[.int .i64 n, .slice (some ⟨g, 0, none⟩) cls.length c1] 24)).alloc (.cells #[.int .i64 n, .slice D cls.length d] 24)) ⟨g, i, none⟩ = some s.val from fun i s hs => by
    obtain ⟨ad, ha, hh⟩ := hat i s hs
    injection ha with ha; subst ha
    have := hh 0 _ rfl
    rw [hadd] at this
    simpa [cSlc] using this)
  obtain ⟨Z, zn, zc⟩ := z
  obtain ⟨Z', zc', hvz, -, hzc⟩ := hrz
  obtain ⟨rfl, rfl, rfl⟩ : Z = Z' ∧ zn = 1 ∧ zc = zc' := by unfold Slc.val at hvz; injection hvz with a1 a2 a3; exact ⟨a1, a2, a3⟩
  obtain ⟨zd, hZ, hzz⟩ := rd_at_int hzc 0 (by decide)
  subst hZ
  have hadd0 : zd.add 0 = zd := by unfold Addr.add; split <;> simp_all
  rw [hadd0] at hzz
  have HZZ := Lib.hid hzz
  have HCC := Lib.hid hcc
  have HIN := Lib.hid hin
  have HH2 := Lib.hid h2
  clear hat hv hvz hzc hzz hcc hin hp h2 hk hL hr hr2 hsl hadd hadd0 hm2
  go_enter Tryd.func15, Tryd.ntmps15
  go_wp2_with fail
  clear hne e1
  generalize hw2 : (w.alloc (.cells #[.int .i64 n, .slice (some ⟨g, 0, none⟩) cls.length c1] 24)).alloc (.cells #[.int .i64 n, .slice D cls.length d] 24) = w2 at HAT HZZ HCC HIN HH2 ⊢
  have HEQ := Lib.hid hw2; clear hw2
  generalize hB : w.heap.size = B at HH2 ⊢
  clear hB
  have F1 := Lib.hid (show w2.cell? ⟨B, 1, none⟩ = some (.slice (some ⟨g, 0, none⟩) cls.length c1) from (HH2.out.pull 1).cell 1)
  have F2 := Lib.hid (show w2.cell? ⟨B + 1, 1, none⟩ = some (.slice D cls.length d) from HH2.out.cell 1)
  clear HH2
  go_loopg [5] cls.length (fun k i wr => ∃ j q : Nat, j ≤ cls.length ∧ k = cls.length - j ∧ i = .int .i64 j ∧ wr = w2.drewN q)
  case atStart => exact ⟨0, 0, Nat.zero_le _, rfl, rfl, rfl⟩
  case round =>
    obtain ⟨j, q, hj, hgk, rfl, hwr⟩ := hrel
    subst hgk
    have g1 : wr.cell? ⟨B, 1, none⟩ = some (.slice (some ⟨g, 0, none⟩) cls.length c1) := by rw [hwr]; exact F1.out
    have g2 : wr.cell? ⟨B + 1, 1, none⟩ = some (.slice D cls.length d) := by rw [hwr]; exact F2.out
    by_cases hlt : j < cls.length
    · obtain ⟨bd, B2, n2, cc2, hA2, hc2', hr2⟩ := HCC.out j _ (List.getElem?_eq_getElem hlt)
      subst hA2
      have hsj : ss[j]? = some (ss[j]'(by rw [HSL.out]; exact hlt)) := List.getElem?_eq_getElem _
      have k1 := HAT.out j _ (by rw [List.getElem?_append_left (by rw [HSL.out]; exact hlt)]; exact hsj)
      have k2 := HIN.out j _ _ hsj (List.getElem?_eq_getElem hlt)
      generalize ss[j]'(by rw [HSL.out]; exact hlt) = sj at k1 k2
      obtain ⟨sA, sn, sc⟩ := sj
      generalize cls[j] = x at k2 hr2
      have k1' : wr.cell? ⟨g, j, none⟩ = some (.slice sA sn sc) := by rw [hwr]; exact k1
      have c2' : wr.cell? (bd.add j) = some (.slice B2 n2 cc2) := by rw [hwr]; exact hc2'
      have kw := fun m => kept_walk (wr.drewN m) (.slice sA sn sc) (.slice B2 n2 cc2) x (RdLC.mono k2 (fun a u h => by rw [hwr]; exact h)) (hr2.mono (fun a u h => by rw [hwr]; exact h))
      clear k1 k2 hc2' hr2 hsj
      have HWR := Lib.hid hwr; clear hwr
      go_wp2_with fail
      go_quiet ((go_at_call 29; exact Calls.quiet_of (kw _)))
      go_wp2_with fail
      go_roundg (cls.length - (j + 1))
      case measure => omega
      case rel => exact ⟨j + 1, _, by omega, rfl, by go_num, by rw [HWR.out]; exact World.drewN_drewN _ _ _⟩
    · obtain rfl : j = cls.length := by omega
      have k1 := HAT.out cls.length (some zd, 1, zc) (by rw [List.getElem?_append_right (by rw [HSL.out]; exact Nat.le_refl _), HSL.out, Nat.sub_self]; rfl)
      have k1' : wr.cell? ⟨g, cls.length, none⟩ = some (.slice (some zd) 1 zc) := by rw [hwr]; exact k1
      have k3 : wr.cell? zd = some (.int .i64 55555) := by rw [hwr]; exact HZZ.out
      have HWR := Lib.hid hwr; clear hwr k1
      go_wp2_with fail
      go_ret
      exact ⟨rfl, _, by rw [HEQ.out]; exact HWR.out⟩
end Go.Proofs.YtnmkdhoijdoccaaDoor
