/- The law CnfProjects. -/
import Derived.Test.YtnmkdhoijdoccaaDoorLChk
import Derived.Test.YtnmkdhoijdoccaaDoorCnEp
import Derived.Test.YtnmkdhoijdoccaaDoorCnPj
import Derived.Test.YtnmkdhoijdoccaaDoorCnLv
import Derived.Test.YtnmkdhoijdoccaaDoorCnLd
import Derived.Test.YtnmkdhoijdoccaaDoorCnSm
set_option linter.unusedVariables false
set_option linter.unusedSimpArgs false
namespace Go.Proofs.YtnmkdhoijdoccaaDoor
open Go Go.RowKit SL

set_option maxRecDepth 100000 in
set_option maxHeartbeats 8000000 in
theorem projects_walk (W : World) (htab : Tab W) (n : Int) (vf : Value) (cls : List (List Int)) (v b : Int) (hn : I64 n) (hr : Ent [Old W] (Rd2 (cInt .i64) vf cls)) (hI : ∀ c ∈ cls, ∀ x ∈ c, I64 x) (hvI : I64 v) (hb : 0 ≤ b ∧ b ≤ 18446744073709551615) (hsz : (cls.map fun c => c.length + 1).sum ≤ 1048576) :
    Calls Tryd.prog 7 #[.agg #[.int .i64 n, vf], .int .i64 v, .int .u64 b] W fun e w' => e = .returned (.bool true) ∧ SL.St W [Old W] w' := by
  obtain ⟨hs1, hs2⟩ := sum_bounds hsz
  obtain ⟨A, c, rfl, -, -⟩ := (hr.use (SL.St.start W)).at
  have h1 := (SL.St.start W).alloc (.cells #[.int .i64 n, .slice A cls.length c] 24)
  have uT : Ent [Old W] Tab := SL.tab_old htab
  go_enter Tryd.func7, Tryd.ntmps7
  go_wp2_with fail
  refine (live_walk W _ _ h1).mono ?_
  rintro e w1 ⟨rfl, h2⟩
  generalize W.heap.size = F0 at *
  have a0 : w1.cell? ⟨F0, 0, none⟩ = some (.int .i64 n) := h2.cell 0
  have a1 : w1.cell? ⟨F0, 1, none⟩ = some (.slice A cls.length c) := h2.cell 1
  have EW := eliminate_walk W w1 _ h2 n hn (.slice A cls.length c) cls (Ent.tail hr) hI (Ent.tail uT) v hvI
  have PP := @proj_plain n v cls
  have PB := @elim_bad n v cls
  generalize elimM n cls v = U at *
  obtain ⟨pn, G, er⟩ := U
  simp only at EW PP PB
  go_wp2_with fail
  refine EW.mono ?_
  rintro e w2 ⟨v2, rfl, h3⟩
  clear EW h1 h2 a0 a1
  obtain ⟨A2, c2, rfl, -, -⟩ := h3.rd2.at
  have h4 := h3.alloc (.cells #[.int .i64 pn, .slice A2 G.length c2] 24)
  by_cases he : er = 0
  · subst he
    obtain ⟨hc, v1, v2, hpn, hcg, hno, hmain, hsub⟩ := PP rfl
    subst hpn
    clear PP PB
    have hGI : ∀ c ∈ G, ∀ x ∈ c, I64 x := fun d hd x hx => by obtain ⟨c, hc, h⟩ := hsub d hd x hx; exact hI c hc x h
    obtain ⟨n1, n2, n3, -⟩ := checkM_ok hc
    have hGl := (checkM_ok hcg).2.2.1
    have und := fun (m : List Int) => And.intro (underM_und hc m) (underM_und hcg m)
    have HMAIN := Lib.hid hmain
    have HUND := Lib.hid und
    have HNO := Lib.hid hno
    have HN3 := Lib.hid n3
    clear hmain hsub hc hcg und hno n3
    have d1 : decide (v < 1) = false := decide_eq_false (by omega)
    have d2 : decide (pn < v) = false := decide_eq_false (by omega)
    have d3 : decide (v > pn) = false := decide_eq_false (by omega)
    have d4 : (pn != pn) = false := by simp
    have a0 : (w2.alloc (.cells #[.int .i64 pn, .slice A2 G.length c2] 24)).cell? ⟨F0, 0, none⟩ = some (.int .i64 pn) := (h4.pull 2).cell 0
    have g0 := h4.cell 0
    go_wp2_with (go_at_call 13; refine (no_walk _ _).mono ?_; rintro e w' ⟨rfl, rfl⟩)
    generalize w2.heap.size = F1 at *
    generalize w2.alloc _ = w3 at *
    clear h3 a0 g0 d1 d2 d3 d4
    have V1 := Lib.hid v1
    have V2 := Lib.hid v2
    clear v1 v2
    go_loopg [9] G.length (fun k i wr => ∃ j : Nat, j ≤ G.length ∧ k = G.length - j ∧ i = .int .i64 j ∧ SL.St W (Blk F1 (.cells #[.int .i64 pn, .slice A2 G.length c2] 24 (0, 0)) :: Arr2 (cInt .i64) 3 51 (.slice A2 G.length c2) G :: Blk F0 (.cells #[.int .i64 pn, .slice A cls.length c] 24 (0, 0)) :: [Old W]) wr)
    case atStart => exact ⟨0, Nat.zero_le _, rfl, rfl, h4⟩
    case round =>
      clear h4
      obtain ⟨j, hj, hgk, rfl, hsr⟩ := hrel
      subst hgk
      have g0 : wr.cell? ⟨F1, 0, none⟩ = some (.int .i64 pn) := hsr.cell 0
      have g1 : wr.cell? ⟨F1, 1, none⟩ = some (.slice A2 G.length c2) := hsr.cell 1
      by_cases hlt : j < G.length
      · obtain ⟨A3, c3, hv3, -, hP⟩ := hsr.drop.rd2.at
        obtain ⟨ad, B1, m1, cc1, hA3, hcell, hrx⟩ := hP j _ (List.getElem?_eq_getElem hlt)
        obtain rfl : A2 = some ad := by rw [← hA3]; injection hv3
        clear hP hv3 hA3
        obtain ⟨k1, k2⟩ := HNO.out _ (List.getElem_mem hlt)
        have HW := has_walk wr _ _ hrx v
        have HN := has_walk wr _ _ hrx (-v)
        rw [k1] at HW
        rw [k2] at HN
        clear hrx k1 k2
        have hv1 := V1.out
        have hv2 := V2.out
        have hneg : 1 ≤ v ∧ v ≤ 1048576 := by omega
        generalize G[j] = x at *
        go_wp2_with fail
        refine HW.mono ?_
        rintro e w' ⟨rfl, rfl⟩
        go_wp2_with fail
        refine HN.mono ?_
        rintro e w' ⟨rfl, rfl⟩
        go_wp2_with fail
        go_roundg (G.length - (j + 1))
        case measure => omega
        case rel => exact ⟨j + 1, by omega, rfl, by go_num, hsr⟩
      · obtain rfl : j = G.length := by omega
        have a0 : wr.cell? ⟨F0, 0, none⟩ = some (.int .i64 pn) := (hsr.pull 2).cell 0
        go_wp2_with fail
        refine (row_walk W wr _ hsr pn n1 n2 b hb.1 (by omega)).mono ?_
        rintro e w5 ⟨v5, m, rfl, hm, h8⟩
        clear hsr g0 g1 a0
        have hv1 := V1.out
        have hv2 := V2.out
        have hml := hm.1
        have hmb := whole1_bytes hm
        have U1 := under_walk W w5 _ h8 pn hn (.slice A2 G.length c2) v5 G m (Ent.tail (Ent.tail Ent.rd2)) hGI Ent.rd hmb
        rw [(HUND.out m).2.1, (HUND.out m).2.2] at U1
        have HM := HMAIN.out m hm
        replace HM := Lib.hid HM
        have HSB := Lib.hid <| show ∀ (k : Nat) (e : Int), e = 1 ∨ e = -1 → ∀ x ∈ m.set k e, -128 ≤ x ∧ x ≤ 127 from fun k e he x hx => by
          rcases List.mem_or_eq_of_mem_set hx with h | h
          · exact hmb x h
          · rcases he with he | he <;> omega
        have hidx2 : 0 ≤ v - 1 := by omega
        have hidx3 : v - 1 < (m.length : Int) := by omega
        have hk : v.toNat - 1 < m.length := by omega
        have hidx : (v - 1).toNat = v.toNat - 1 := by omega
        obtain ⟨kv, cv, rfl⟩ := h8.arr_form (by omega)
        generalize v.toNat - 1 = k at *
        clear hml hm
        have g0 : w5.cell? ⟨F1, 0, none⟩ = some (.int .i64 pn) := (h8.pull 1).cell 0
        have g1 : w5.cell? ⟨F1, 1, none⟩ = some (.slice A2 G.length c2) := (h8.pull 1).cell 1
        go_wp2_with fail
        refine U1.mono ?_
        rintro e w6 ⟨rfl, h9⟩
        clear U1 h8 g0 g1
        obtain ⟨c0, f0⟩ := h9.arr_cell1 rfl k _ (List.getElem?_eq_getElem hk) _ rfl
        have h10 := h9.arr_set1 rfl k hk 1 _ rfl
        have U2 := under_walk W _ _ h10 pn hn (.slice A cls.length c) (.slice (some ⟨kv, 0, none⟩) m.length cv) cls (m.set k 1) (Ent.tail (Ent.tail (Ent.tail (Ent.tail hr)))) hI Ent.rd (HSB.out k 1 (.inl rfl))
        rw [(HUND.out (m.set k 1)).1.1, (HUND.out (m.set k 1)).1.2] at U2
        have a0 : World.cell? _ ⟨F0, 0, none⟩ = some (.int .i64 pn) := (h10.pull 3).cell 0
        have a1 : World.cell? _ ⟨F0, 1, none⟩ = some (.slice A cls.length c) := (h10.pull 3).cell 1
        go_wp2_with fail
        refine U2.mono ?_
        rintro e w7 ⟨rfl, h11⟩
        clear U2 h9 h10 a0 a1 c0 f0
        obtain ⟨c0, f0⟩ := h11.arr_cell1 rfl k _ (List.getElem?_eq_getElem (by rw [List.length_set]; exact hk)) _ rfl
        have h12 := h11.arr_set1 rfl k (by rw [List.length_set]; exact hk) (-1) _ rfl
        rw [List.set_set] at h12
        have U3 := under_walk W _ _ h12 pn hn (.slice A cls.length c) (.slice (some ⟨kv, 0, none⟩) m.length cv) cls (m.set k (-1)) (Ent.tail (Ent.tail (Ent.tail (Ent.tail hr)))) hI Ent.rd (HSB.out k (-1) (.inr rfl))
        rw [(HUND.out (m.set k (-1))).1.1, (HUND.out (m.set k (-1))).1.2] at U3
        have a0 : World.cell? _ ⟨F0, 0, none⟩ = some (.int .i64 pn) := (h12.pull 3).cell 0
        have a1 : World.cell? _ ⟨F0, 1, none⟩ = some (.slice A cls.length c) := (h12.pull 3).cell 1
        generalize undV G m = X at *
        generalize undV cls (m.set k 1) = Y at *
        generalize undV cls (m.set k (-1)) = Z at *
        go_wp2_with fail
        refine U3.mono ?_
        rintro e w8 ⟨rfl, h13⟩
        clear U3 h11 h12 a0 a1 c0 f0
        by_cases hY : Y = 1
        · obtain rfl : X = 1 := HM.out.2 (.inl hY)
          subst hY
          clear HM
          go_wp2_with fail
          go_ret
          exact ⟨rfl, h13.sel [] 4⟩
        · have dY : (Y == 1) = false := by simp [hY]
          by_cases hZ : Z = 1
          · obtain rfl : X = 1 := HM.out.2 (.inr hZ)
            subst hZ
            clear HM
            go_wp2_with fail
            go_ret
            exact ⟨rfl, h13.sel [] 4⟩
          · have dZ : (Z == 1) = false := by simp [hZ]
            have dX : (X == 1) = false := by
              cases hq : X == 1 with
              | false => rfl
              | true => rcases HM.out.1 (eq_of_beq hq) with h | h
                        · exact absurd h hY
                        · exact absurd h hZ
            clear HM
            go_wp2_with fail
            go_ret
            exact ⟨rfl, h13.sel [] 4⟩
  · obtain ⟨rfl, rfl⟩ := PB he
    have hne : (er != 0) = true := by simp [he]
    have g1 := h4.cell 1
    clear PP PB he
    go_wp2_with (go_at_call 13; refine (no_walk _ _).mono ?_; rintro e w' ⟨rfl, rfl⟩)
    go_ret
    exact ⟨rfl, h4.sel [3] 3⟩
end Go.Proofs.YtnmkdhoijdoccaaDoor
