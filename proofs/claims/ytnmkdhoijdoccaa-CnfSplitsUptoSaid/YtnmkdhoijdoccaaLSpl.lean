/- The law CnfSplits. -/
import Derived.Test.YtnmkdhoijdoccaaLChk
import Derived.Test.YtnmkdhoijdoccaaCnMx
import Derived.Test.YtnmkdhoijdoccaaCnN0
import Derived.Test.YtnmkdhoijdoccaaCnZ
set_option linter.unusedVariables false
set_option linter.unusedSimpArgs false
namespace Go.Proofs.Ytnmkdhoijdoccaa
open Go Go.RowKit Go.Sort SL

theorem cut_i64g {cls : List (List Int)} (hI : ∀ c ∈ cls, ∀ x ∈ c, I64 x) (l : Int) : ∀ c ∈ cutM l cls, ∀ x ∈ c, I64 x := fun d hd x hx => by
  obtain ⟨c, hc, -, rfl⟩ := cutM_mem.1 hd
  exact hI c hc x (List.mem_filter.1 hx).1
set_option maxRecDepth 100000 in
set_option maxHeartbeats 16000000 in
theorem splits_good (W : World) (n : Int) (vf : Value) (cls : List (List Int)) (li : Int) (vm : Value) (m : List Int) (hn : I64 n) (hr : Ent [Old W] (Rd2 (cInt .i64) vf cls)) (hI : ∀ c ∈ cls, ∀ x ∈ c, I64 x) (hli : I64 li) (hm : Ent [Old W] (Rd (cInt .i8) vm m)) (hmb : ∀ x ∈ m, -128 ≤ x ∧ x ≤ 127) (hsz : (cls.map fun c => c.length + 1).sum + m.length ≤ 1048576) (ok1 : (checkM n cls).2 = 0) (ok2 : litOk li = true) (ok3 : varM li ≤ n) :
    Calls Try.prog 11 #[.agg #[.int .i64 n, vf], .int .i64 li, vm] W fun e w' => e = .returned (.bool true) ∧ SL.St W [Old W] w' := by
  obtain ⟨A, c, rfl, -, -⟩ := (hr.use (SL.St.start W)).at
  have h1 := (SL.St.start W).alloc (.cells #[.int .i64 n, .slice A cls.length c] 37)
  have hA : assignM n cls li = (n, cutM li cls, 0) := by
    show (if (checkM n cls).2 ≠ 0 then (0, [], (checkM n cls).2) else if litOk li = false ∨ n < varM li then (0, [], 20) else (n, cutM li cls, 0)) = _
    rw [if_neg (by simp [ok1]), if_neg (fun h => h.elim (fun h => by rw [ok2] at h; cases h) (fun h => by omega))]
  have hB : assignM n cls (-li) = (n, cutM (-li) cls, 0) := by
    show (if (checkM n cls).2 ≠ 0 then (0, [], (checkM n cls).2) else if litOk (-li) = false ∨ n < varM (-li) then (0, [], 20) else (n, cutM (-li) cls, 0)) = _
    rw [if_neg (by simp [ok1]), if_neg (fun h => h.elim (fun h => by rw [litOk_neg ok2] at h; cases h) (fun h => by rw [varM_neg] at h; omega))]
  obtain ⟨lb0, lb1, lb2⟩ := litOk_iff.1 ok2
  have hliN : I64 (-li) := ⟨by omega, by omega⟩
  have AW := fun (w' : World) (l' : List HP) (h : SL.St W l' w') (q : Ent l' (Rd2 (cInt .i64) (.slice A cls.length c) cls)) => assign_walk W w' l' h n hn (.slice A cls.length c) cls q hI li hli
  have AN := fun (w' : World) (l' : List HP) (h : SL.St W l' w') (q : Ent l' (Rd2 (cInt .i64) (.slice A cls.length c) cls)) => assign_walk W w' l' h n hn (.slice A cls.length c) cls q hI (-li) hliN
  rw [hA] at AW
  rw [hB] at AN
  have hIL := cut_i64g hI li
  have hIN := cut_i64g hI (-li)
  have UF := fun (w' : World) (l' : List HP) (h : SL.St W l' w') (q : Ent l' (Rd2 (cInt .i64) (.slice A cls.length c) cls)) (q2 : Ent l' (Rd (cInt .i8) vm m)) => under_walk W w' l' h n hn (.slice A cls.length c) vm cls m q hI q2 hmb
  have UG := fun (w' : World) (l' : List HP) (v : Value) (h : SL.St W l' w') (q : Ent l' (Rd2 (cInt .i64) v (cutM li cls))) (q2 : Ent l' (Rd (cInt .i8) vm m)) => under_walk W w' l' h n hn v vm (cutM li cls) m q hIL q2 hmb
  have CF := fun (w' : World) (l' : List HP) (h : SL.St W l' w') (q : Ent l' (Rd2 (cInt .i64) (.slice A cls.length c) cls)) => Count_walk W w' l' h n hn (.slice A cls.length c) cls q hI
  have CG := fun (w' : World) (l' : List HP) (v : Value) (h : SL.St W l' w') (q : Ent l' (Rd2 (cInt .i64) v (cutM li cls))) => Count_walk W w' l' h n hn v (cutM li cls) q hIL
  have CH := fun (w' : World) (l' : List HP) (v : Value) (h : SL.St W l' w') (q : Ent l' (Rd2 (cInt .i64) v (cutM (-li) cls))) => Count_walk W w' l' h n hn v (cutM (-li) cls) q hIN
  have OW := fun (w' : World) (q : Rd (cInt .i8) vm m w') => of_walk w' vm m q hmb li hli
  have hz := checkM_zero.1 ok1
  obtain ⟨⟨n0, n1⟩, -⟩ := hz
  have HXY := Lib.hid (show ofM m li = 1 → (underM n cls m).1 = (underM n (cutM li cls) m).1 from fun h => by rw [underM_val ok1, underM_val (check_cut li ok1), undV_cut h])
  have cnt : ∀ cs : List (List Int), (checkM n cs).2 = 0 → n ≤ 20 → countM n cs = (countP cs n.toNat [], 0) := fun cs h h2 => by
    unfold countM
    rw [if_neg (by simp [h]), if_neg (by omega)]
  have HCN := Lib.hid (show n ≤ 12 → countM n cls = (countP cls n.toNat [], 0) ∧ countM n (cutM li cls) = (countP (cutM li cls) n.toNat [], 0) ∧ countM n (cutM (-li) cls) = (countP (cutM (-li) cls) n.toNat [], 0) from fun h =>
    ⟨cnt _ ok1 (by omega), cnt _ (check_cut li ok1) (by omega), cnt _ (check_cut (-li) ok1) (by omega)⟩)
  have HSUM := Lib.hid (splits_count (cls := cls) (l := li) (n := n.toNat) ok2 (by omega))
  have HLE := Lib.hid (show n ≤ 12 → countP cls n.toNat [] ≤ 4096 from fun h => Nat.le_trans (countP_le _ _ _) (Nat.le_trans (Nat.pow_le_pow_right (by decide) (by omega : n.toNat ≤ 12)) (by decide : 2 ^ 12 ≤ 4096)))
  clear cnt hA hB hIL hIN ok1 ok2 ok3 hI hli hliN
  generalize cutM li cls = L at *
  generalize cutM (-li) cls = N at *
  generalize underM n cls m = U1 at *
  generalize underM n L m = U2 at *
  generalize countM n cls = K1 at *
  generalize countM n L = K2 at *
  generalize countM n N = K3 at *
  generalize countP cls n.toNat [] = k1 at *
  generalize countP L n.toNat [] = k2 at *
  generalize countP N n.toNat [] = k3 at *
  generalize ofM m li = O at *
  obtain ⟨x1, x2, x3⟩ := U1
  obtain ⟨y1, y2, y3⟩ := U2
  simp only at HXY UF UG
  have HAN := Lib.hid AN; have HUF := Lib.hid UF; have HUG := Lib.hid UG; have HCF := Lib.hid CF; have HCG := Lib.hid CG; have HCH := Lib.hid CH; have HOW := Lib.hid OW; have HAW := Lib.hid AW
  clear AN UF UG CF CG CH OW AW
  go_enter Try.func11, Try.ntmps11
  go_wp2_with fail
  refine (live_walk W _ _ h1).mono ?_
  rintro e w1 ⟨rfl, h2⟩
  generalize W.heap.size = F0 at *
  clear h1
  have a0 : w1.cell? ⟨F0, 0, none⟩ = some (.int .i64 n) := h2.cell 0
  have a1 : w1.cell? ⟨F0, 1, none⟩ = some (.slice A cls.length c) := h2.cell 1
  have AW1 := HAW.out w1 _ h2 (Ent.tail hr)
  clear HAW
  go_wp2_with fail
  refine AW1.mono ?_
  rintro e w2 ⟨v2, rfl, h3⟩
  obtain ⟨A2, c2, rfl, -, -⟩ := h3.rd2.at
  have h4 := h3.alloc (.cells #[.int .i64 n, .slice A2 L.length c2] 37)
  clear AW1 h2 a0 a1
  have a0 : (w2.alloc (.cells #[.int .i64 n, .slice A2 L.length c2] 37)).cell? ⟨F0, 0, none⟩ = some (.int .i64 n) := (h4.pull 2).cell 0
  have a1 : (w2.alloc (.cells #[.int .i64 n, .slice A2 L.length c2] 37)).cell? ⟨F0, 1, none⟩ = some (.slice A cls.length c) := (h4.pull 2).cell 1
  have U1 := HUF.out _ _ h4 (Ent.tail (Ent.tail (Ent.tail hr))) (Ent.tail (Ent.tail (Ent.tail hm)))
  clear HUF h3
  go_wp2_with (go_at_call 16; refine (no_walk _ _).mono ?_; rintro e w' ⟨rfl, rfl⟩)
  refine U1.mono ?_
  rintro e w3 ⟨rfl, h5⟩
  clear U1 h4 a0 a1
  generalize w2.heap.size = F2 at *
  have b0 : w3.cell? ⟨F2, 0, none⟩ = some (.int .i64 n) := h5.cell 0
  have b1 : w3.cell? ⟨F2, 1, none⟩ = some (.slice A2 L.length c2) := h5.cell 1
  have U2 := HUG.out _ _ _ h5 (Ent.tail Ent.rd2) (Ent.tail (Ent.tail (Ent.tail hm)))
  clear HUG
  go_wp2_with fail
  refine U2.mono ?_
  rintro e w4 ⟨rfl, h6⟩
  clear U2 h5 b0 b1
  have O1 := HOW.out w4 ((Ent.tail (Ent.tail (Ent.tail hm))).use h6)
  clear HOW
  have a0 : w4.cell? ⟨F0, 0, none⟩ = some (.int .i64 n) := (h6.pull 2).cell 0
  have a1 : w4.cell? ⟨F0, 1, none⟩ = some (.slice A cls.length c) := (h6.pull 2).cell 1
  have AN1 := HAN.out _ _ h6 (Ent.tail (Ent.tail (Ent.tail hr)))
  clear HAN
  have key : ∃ b1 b2 : Bool, (O == 1) = b1 ∧ (x1 != y1) = b2 ∧ (b1 && b2) = false := by
    refine ⟨_, _, rfl, rfl, ?_⟩
    by_cases h : O = 1
    · rw [HXY.out h]; simp
    · simp [h]
  obtain ⟨b1, b2, hb1, hb2, hb3⟩ := key
  clear HXY
  have REST : True := trivial
  cases b1
  · clear hb3 hb2
    go_wp2_with fail
    refine O1.mono ?_
    rintro e w' ⟨rfl, rfl⟩
    go_wp2_with fail
    refine AN1.mono ?_
    rintro e w5 ⟨v5, rfl, h7⟩
    obtain ⟨A3, c3, rfl, -, -⟩ := h7.rd2.at
    have h8 := h7.alloc (.cells #[.int .i64 n, .slice A3 N.length c3] 37)
    clear AN1 h6 h7 a0 a1 O1
    have a0 : (w5.alloc (.cells #[.int .i64 n, .slice A3 N.length c3] 37)).cell? ⟨F0, 0, none⟩ = some (.int .i64 n) := (h8.pull 4).cell 0
    have a1 : (w5.alloc (.cells #[.int .i64 n, .slice A3 N.length c3] 37)).cell? ⟨F0, 1, none⟩ = some (.slice A cls.length c) := (h8.pull 4).cell 1
    have C1 := HCF.out _ _ h8 (Ent.tail (Ent.tail (Ent.tail (Ent.tail (Ent.tail hr)))))
    clear HCF
    by_cases hbig : 12 < n
    · have d12 : decide (12 < n) = true := decide_eq_true hbig
      clear hbig C1
      go_wp2_with (go_at_call 16; refine (no_walk _ _).mono ?_; rintro e w' ⟨rfl, rfl⟩)
      go_ret
      exact ⟨rfl, h8.sel [5] 5⟩
    · have d12 : decide (12 < n) = false := decide_eq_false hbig
      obtain ⟨e1, e2, e3⟩ := HCN.out (by omega)
      have hle := HLE.out (by omega)
      have hsum := HSUM.out
      subst e1; subst e2; subst e3
      clear HCN HLE HSUM hbig
      simp only at C1 HCG HCH
      go_wp2_with (go_at_call 16; refine (no_walk _ _).mono ?_; rintro e w' ⟨rfl, rfl⟩)
      refine C1.mono ?_
      rintro e w6 ⟨rfl, h9⟩
      clear C1 h8 a0 a1
      generalize w5.heap.size = F3 at *
      have b0 : w6.cell? ⟨F2, 0, none⟩ = some (.int .i64 n) := (h9.pull 2).cell 0
      have b1 : w6.cell? ⟨F2, 1, none⟩ = some (.slice A2 L.length c2) := (h9.pull 2).cell 1
      have C2 := HCG.out _ _ _ h9 (Ent.tail (Ent.tail (Ent.tail Ent.rd2)))
      go_wp2_with fail
      refine C2.mono ?_
      rintro e w7 ⟨rfl, h10⟩
      clear C2 h9 b0 b1
      have b0 : w7.cell? ⟨F3, 0, none⟩ = some (.int .i64 n) := h10.cell 0
      have b1 : w7.cell? ⟨F3, 1, none⟩ = some (.slice A3 N.length c3) := h10.cell 1
      have C3 := HCH.out _ _ _ h10 (Ent.tail Ent.rd2)
      go_wp2_with fail
      refine C3.mono ?_
      rintro e w8 ⟨rfl, h11⟩
      clear C3 h10 b0 b1
      have hk2 : k2 ≤ 8192 := by omega
      have hk3 : k3 ≤ 8192 := by omega
      have dd : ((2 * (k1 : Int)) == ((k2 : Int) + (k3 : Int))) = true := by
        rw [beq_iff_eq]; omega
      clear hsum
      go_wp2_with (go_at_call 16; refine (no_walk _ _).mono ?_; rintro e w' ⟨rfl, rfl⟩)
      go_ret
      exact ⟨rfl, h11.sel [5] 5⟩
  · have hb2' : b2 = false := by simpa using hb3
    subst hb2'
    clear hb3
    go_wp2_with fail
    refine O1.mono ?_
    rintro e w' ⟨rfl, rfl⟩
    go_wp2_with fail
    refine AN1.mono ?_
    rintro e w5 ⟨v5, rfl, h7⟩
    obtain ⟨A3, c3, rfl, -, -⟩ := h7.rd2.at
    have h8 := h7.alloc (.cells #[.int .i64 n, .slice A3 N.length c3] 37)
    clear AN1 h6 h7 a0 a1 O1
    have a0 : (w5.alloc (.cells #[.int .i64 n, .slice A3 N.length c3] 37)).cell? ⟨F0, 0, none⟩ = some (.int .i64 n) := (h8.pull 4).cell 0
    have a1 : (w5.alloc (.cells #[.int .i64 n, .slice A3 N.length c3] 37)).cell? ⟨F0, 1, none⟩ = some (.slice A cls.length c) := (h8.pull 4).cell 1
    have C1 := HCF.out _ _ h8 (Ent.tail (Ent.tail (Ent.tail (Ent.tail (Ent.tail hr)))))
    clear HCF
    by_cases hbig : 12 < n
    · have d12 : decide (12 < n) = true := decide_eq_true hbig
      clear hbig C1
      go_wp2_with (go_at_call 16; refine (no_walk _ _).mono ?_; rintro e w' ⟨rfl, rfl⟩)
      go_ret
      exact ⟨rfl, h8.sel [5] 5⟩
    · have d12 : decide (12 < n) = false := decide_eq_false hbig
      obtain ⟨e1, e2, e3⟩ := HCN.out (by omega)
      have hle := HLE.out (by omega)
      have hsum := HSUM.out
      subst e1; subst e2; subst e3
      clear HCN HLE HSUM hbig
      simp only at C1 HCG HCH
      go_wp2_with (go_at_call 16; refine (no_walk _ _).mono ?_; rintro e w' ⟨rfl, rfl⟩)
      refine C1.mono ?_
      rintro e w6 ⟨rfl, h9⟩
      clear C1 h8 a0 a1
      generalize w5.heap.size = F3 at *
      have b0 : w6.cell? ⟨F2, 0, none⟩ = some (.int .i64 n) := (h9.pull 2).cell 0
      have b1 : w6.cell? ⟨F2, 1, none⟩ = some (.slice A2 L.length c2) := (h9.pull 2).cell 1
      have C2 := HCG.out _ _ _ h9 (Ent.tail (Ent.tail (Ent.tail Ent.rd2)))
      go_wp2_with fail
      refine C2.mono ?_
      rintro e w7 ⟨rfl, h10⟩
      clear C2 h9 b0 b1
      have b0 : w7.cell? ⟨F3, 0, none⟩ = some (.int .i64 n) := h10.cell 0
      have b1 : w7.cell? ⟨F3, 1, none⟩ = some (.slice A3 N.length c3) := h10.cell 1
      have C3 := HCH.out _ _ _ h10 (Ent.tail Ent.rd2)
      go_wp2_with fail
      refine C3.mono ?_
      rintro e w8 ⟨rfl, h11⟩
      clear C3 h10 b0 b1
      have hk2 : k2 ≤ 8192 := by omega
      have hk3 : k3 ≤ 8192 := by omega
      have dd : ((2 * (k1 : Int)) == ((k2 : Int) + (k3 : Int))) = true := by
        rw [beq_iff_eq]; omega
      clear hsum
      go_wp2_with (go_at_call 16; refine (no_walk _ _).mono ?_; rintro e w' ⟨rfl, rfl⟩)
      go_ret
      exact ⟨rfl, h11.sel [5] 5⟩
end Go.Proofs.Ytnmkdhoijdoccaa
