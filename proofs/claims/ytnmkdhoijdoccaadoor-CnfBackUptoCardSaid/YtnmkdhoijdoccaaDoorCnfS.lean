/- The reference's Check and Under. -/
import Derived.Test.YtnmkdhoijdoccaaDoorCnfR
set_option linter.unusedVariables false
set_option linter.unusedSimpArgs false
namespace Go.Proofs.YtnmkdhoijdoccaaDoor
open Go Go.RowKit SL

def badL (vars l : Int) : Bool := !litOk l || decide (vars < varM l)
def checkFrom (vars : Int) : Nat → Nat → List (List Int) → Int × Int
  | _, _, [] => (0, 0)
  | i, all, c :: cs => if 65536 < c.length then (i, 22) else if c.any (badL vars) = true then (i, 20) else if 4194304 < all + c.length then (i, 23) else checkFrom vars (i + 1) (all + c.length) cs
def checkM (vars : Int) (cls : List (List Int)) : Int × Int :=
  if vars < 0 ∨ 1048576 < vars then (-1, 21) else if 1048576 < cls.length then (-1, 23) else checkFrom vars 0 0 cls

theorem Rd.drw {α : Type} {d : Cd α} {v : Value} {xs : List α} {w : World} (h : Rd d v xs w) (n : Nat) : Rd d v xs (w.drewN n) := h.mono fun _ _ h => h

set_option maxRecDepth 100000 in
set_option maxHeartbeats 8000000 in
theorem rcheck_walk (w0 w : World) (l : List HP) (h : SL.St w0 l w) (vars : Int) (hv : I64 vars) (vf : Value) (cls : List (List Int)) (hr : Ent l (Rd2 (cInt .i64) vf cls)) (hI : ∀ c ∈ cls, ∀ x ∈ c, I64 x) :
    Calls Tryd.prog 33 #[.agg #[.int .i64 vars, vf]] w fun e w' => e = .returned (.tuple #[.int .i64 (checkM vars cls).1, .int .i64 (checkM vars cls).2]) ∧ SL.St w0 l w' := by
  have h1 := h.alloc (.cells #[.int .i64 vars, vf] 24)
  obtain ⟨A, c, rfl, hm, -⟩ := (hr.use h).at
  unfold maxLen at hm
  obtain ⟨hv1, hv2⟩ := hv
  have hC : checkM vars cls = if vars < 0 ∨ 1048576 < vars then (-1, 21) else if 1048576 < cls.length then (-1, 23) else checkFrom vars 0 0 cls := rfl
  generalize checkM vars cls = C at *
  clear h
  by_cases e1 : vars < 0
  · have d1 : decide (vars < 0) = true := decide_eq_true e1
    rw [if_pos (.inl e1)] at hC
    subst hC; clear e1
    go_enter Tryd.func33, Tryd.ntmps33
    go_wp2_with fail
    go_ret2
    exact ⟨rfl, h1.drop⟩
  have d1 : decide (vars < 0) = false := decide_eq_false e1
  have e1' : 0 ≤ vars := by omega
  by_cases e2 : 1048576 < vars
  · have d2 : decide (1048576 < vars) = true := decide_eq_true e2
    rw [if_pos (.inr e2)] at hC
    subst hC; clear e1 e2
    go_enter Tryd.func33, Tryd.ntmps33
    go_wp2_with fail
    go_ret2
    exact ⟨rfl, h1.drop⟩
  have d2 : decide (1048576 < vars) = false := decide_eq_false e2
  have e2' : vars ≤ 1048576 := by omega
  rw [if_neg (by omega)] at hC
  clear e1 e2
  by_cases e3 : 1048576 < cls.length
  · have d3 : decide ((1048576 : Int) < (cls.length : Int)) = true := decide_eq_true (by omega)
    rw [if_pos e3] at hC
    subst hC; clear e3
    go_enter Tryd.func33, Tryd.ntmps33
    go_wp2_with fail
    go_ret2
    exact ⟨rfl, h1.drop⟩
  have d3 : decide ((1048576 : Int) < (cls.length : Int)) = false := decide_eq_false (by omega)
  rw [if_neg e3] at hC
  have e3' : cls.length ≤ 1048576 := by omega
  clear e3
  have HC := Lib.hid hC; clear hC
  go_enter Tryd.func33, Tryd.ntmps33
  go_wp2_with fail
  generalize w.heap.size = B at *
  generalize w.alloc _ = w1 at h1 ⊢
  have g0 : w1.cell? ⟨B, 0, none⟩ = some (.int .i64 vars) := h1.cell 0
  have g1 : w1.cell? ⟨B, 1, none⟩ = some (.slice A cls.length c) := h1.cell 1
  obtain ⟨A', c', hv, -, hcc⟩ := (hr.use h1.drop).at
  obtain rfl : A = A' := by injection hv
  have HCC := Lib.hid hcc; have H1 := Lib.hid h1; have G0 := Lib.hid g0; have G1 := Lib.hid g1
  clear hcc h1 g0 g1 hv
  go_loopg [4, 5] cls.length (fun k li i wr => ∃ j all q : Nat, j ≤ cls.length ∧ k = cls.length - j ∧ i = .int .i64 j ∧ li = .int .i64 all ∧ all ≤ 4194304 ∧ C = checkFrom vars j all (cls.drop j) ∧ wr = w1.drewN q)
  case atStart => exact ⟨0, 0, 0, Nat.zero_le _, rfl, rfl, rfl, by omega, HC.out, rfl⟩
  case round =>
    clear HC
    obtain ⟨j, all, q, hj, hgk, rfl, rfl, hall, hC, rfl⟩ := hrel
    subst hgk
    have HC := Lib.hid hC; clear hC
    have g0 : (w1.drewN q).cell? ⟨B, 0, none⟩ = some (.int .i64 vars) := G0.out
    have g1 : (w1.drewN q).cell? ⟨B, 1, none⟩ = some (.slice A cls.length c) := G1.out
    by_cases hlt : j < cls.length
    · obtain ⟨ad, Bc, nc, cc, hA', hcell, hrc⟩ := HCC.out j _ (List.getElem?_eq_getElem hlt)
      subst hA'
      have hcell : (w1.drewN q).cell? (ad.add j) = some (.slice Bc nc cc) := hcell
      have hrc := Rd.drw hrc q
      have HC2 := Lib.hid (show C = if 65536 < cls[j].length then ((j : Int), 22) else if cls[j].any (badL vars) = true then ((j : Int), 20) else if 4194304 < all + cls[j].length then ((j : Int), 23) else checkFrom vars (j + 1) (all + cls[j].length) (cls.drop (j + 1)) by
        rw [HC.out, List.drop_eq_getElem_cons hlt, checkFrom])
      have hIx := hI _ (List.getElem_mem hlt)
      have H2 := Lib.hid (SL.St.drewN H1.out q).drop
      have HQ := Lib.hid (show ∀ n, (w1.drewN q).drewN n = w1.drewN (q + n) from fun n => World.drewN_drewN _ _ _)
      clear HC
      generalize hx : cls[j] = x at *
      clear hx
      generalize w1.drewN q = wq at *
      obtain ⟨Bc', c2, hv, hxm, hcx⟩ := hrc
      obtain ⟨rfl, rfl, rfl⟩ : Bc = Bc' ∧ nc = x.length ∧ cc = c2 := by injection hv with h1 h2 h3; exact ⟨h1, h2, h3⟩
      unfold maxLen at hxm
      clear hv
      by_cases f1 : 65536 < x.length
      · have e1 : decide ((65536 : Int) < (x.length : Int)) = true := decide_eq_true (by omega)
        have HC3 := Lib.hid (HC2.out.trans (if_pos f1)); clear HC2 f1
        go_wp2_with fail
        go_ret2
        exact ⟨by rw [HC3.out]; rfl, H2.out⟩
      have e1 : decide ((65536 : Int) < (x.length : Int)) = false := decide_eq_false (by omega)
      have f1' : x.length ≤ 65536 := by omega
      have HC3 := Lib.hid (HC2.out.trans (if_neg f1)); clear HC2 f1
      have HIX := Lib.hid hIx; clear hIx
      go_wp2_with fail
      obtain ⟨wo, rfl⟩ : ∃ wo : World, wo = wq := ⟨_, rfl⟩
      go_loopg [7] x.length (fun k i wr => ∃ m r : Nat, m ≤ x.length ∧ k = x.length - m ∧ i = .int .i64 m ∧ (x.take m).any (badL vars) = false ∧ wr = wo.drewN r)
      case atStart => exact ⟨0, 0, Nat.zero_le _, rfl, rfl, rfl, rfl⟩
      case round =>
        obtain ⟨m, r, hm2, hgk, rfl, hno, rfl⟩ := hrel
        subst hgk
        have HNO := Lib.hid hno; clear hno
        have G2 := Lib.hid (show (wo.drewN r).cell? ⟨B, 0, none⟩ = some (.int .i64 vars) from g0)
        have G3 := Lib.hid (show (wo.drewN r).cell? ⟨B, 1, none⟩ = some (.slice (some ad) cls.length c) from g1)
        by_cases hltm : m < x.length
        · obtain ⟨xd, hB', hcy⟩ := rd_at_int hcx m hltm
          subst hB'
          have hcy : (wo.drewN r).cell? (xd.add m) = some (.int .i64 x[m]) := hcy
          have hIy := HIX.out _ (List.getElem_mem hltm)
          have HT := Lib.hid (show x.take (m + 1) = x.take m ++ [x[m]] by rw [List.take_succ_eq_append_getElem hltm])
          have hmem : x[m] ∈ x := List.getElem_mem hltm
          have H3 := Lib.hid (H2.out.drewN r)
          have HR := Lib.hid (show ∀ n, (wo.drewN r).drewN n = wo.drewN (r + n) from fun n => World.drewN_drewN _ _ _)
          have hbl : badL vars x[m] = (!litOk x[m] || decide (vars < varM x[m])) := rfl
          generalize x[m] = y at *
          have g0 := G2.out
          clear G2 G3 g1 hcell hcx
          generalize wo.drewN r = wz at *
          have LW := fun n => rlit_walk (wz.drewN n) y hIy
          cases hlit : litOk y with
          | false =>
            rw [hlit, Bool.not_false, Bool.true_or] at hbl
            rw [hlit] at LW
            have HB := Lib.hid (show x.any (badL vars) = true by rw [List.any_eq_true]; exact ⟨y, hmem, hbl⟩)
            have HC4 := Lib.hid (HC3.out.trans (if_pos HB.out)); clear HC3 hbl hlit
            go_wp2_with fail
            go_quiet ((go_at_call 54; exact Calls.quiet_of_same (LW _)))
            go_wp2_with fail
            go_ret2
            exact ⟨by rw [HC4.out]; rfl, H3.out.drewN _⟩
          | true =>
            rw [hlit, Bool.not_true, Bool.false_or] at hbl
            rw [hlit] at LW
            have hlb := litOk_iff.1 hlit
            obtain ⟨hn0, hb1, hb2⟩ := hlb
            have VW := fun n => rvar_walk (wz.drewN n) y (by omega) (by omega)
            have hvm : 0 ≤ varM y ∧ varM y ≤ 1048576 := by unfold varM; split <;> omega
            obtain ⟨hvm1, hvm2⟩ := hvm
            generalize varM y = vy at *
            clear hlit hn0
            by_cases f3 : vars < vy
            · have e3 : decide (vars < vy) = true := decide_eq_true f3
              rw [e3] at hbl
              have HB := Lib.hid (show x.any (badL vars) = true by rw [List.any_eq_true]; exact ⟨y, hmem, hbl⟩)
              have HC4 := Lib.hid (HC3.out.trans (if_pos HB.out)); clear HC3 hbl f3
              go_wp2_with fail
              go_quiet ((first | (go_at_call 54; exact Calls.quiet_of_same (LW _)) | (go_at_call 55; exact Calls.quiet_of_same (VW _))))
              go_wp2_with fail
              go_ret2
              exact ⟨by rw [HC4.out]; rfl, H3.out.drewN _⟩
            · have e3 : decide (vars < vy) = false := decide_eq_false f3
              rw [e3] at hbl
              have HBL := Lib.hid hbl; clear hbl f3
              go_wp2_with fail
              go_quiet ((first | (go_at_call 54; exact Calls.quiet_of_same (LW _)) | (go_at_call 55; exact Calls.quiet_of_same (VW _))))
              go_wp2_with fail
              go_roundg (x.length - (m + 1))
              case measure => omega
              case rel => exact ⟨m + 1, _, by omega, rfl, by go_num, by rw [HT.out, List.any_append, HNO.out]; simp [HBL.out], HR.out _⟩
        · obtain rfl : m = x.length := by omega
          have hno := HNO.out
          rw [List.take_length] at hno
          have HC4 := Lib.hid (HC3.out.trans (if_neg (by rw [hno]; exact Bool.false_ne_true))); clear HC3 hno HNO
          have H3 := Lib.hid (H2.out.drewN r)
          have HR := Lib.hid (show wo.drewN r = w1.drewN (q + r) from HQ.out r)
          clear G2 G3 g0 g1 hcell hcx
          generalize wo.drewN r = wz at *
          by_cases f3 : 4194304 < all + x.length
          · have e3 : decide ((4194304 : Int) < (all : Int) + (x.length : Int)) = true := decide_eq_true (by omega)
            have HC5 := Lib.hid (HC4.out.trans (if_pos f3)); clear HC4 f3
            go_wp2_with fail
            go_ret2
            exact ⟨by rw [HC5.out]; rfl, H3.out⟩
          · have e3 : decide ((4194304 : Int) < (all : Int) + (x.length : Int)) = false := decide_eq_false (by omega)
            have f3' : all + x.length ≤ 4194304 := by omega
            have HC5 := Lib.hid (HC4.out.trans (if_neg f3)); clear HC4 f3
            go_wp2_with fail
            go_roundg (cls.length - (j + 1))
            case measure => omega
            case rel => exact ⟨j + 1, all + x.length, _, by omega, rfl, by go_num, by go_num, f3', HC5.out, HR.out⟩
    · obtain rfl : j = cls.length := by omega
      have HC2 := Lib.hid (show C = (0, 0) by rw [HC.out, List.drop_length, checkFrom])
      have H2 := Lib.hid (SL.St.drewN H1.out q).drop
      go_wp2_with fail
      go_ret2
      exact ⟨by rw [HC2.out]; rfl, H2.out⟩
end Go.Proofs.YtnmkdhoijdoccaaDoor
