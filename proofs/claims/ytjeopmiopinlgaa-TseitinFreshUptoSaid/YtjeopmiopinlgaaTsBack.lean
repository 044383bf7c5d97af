/- TseitinBack: an assignment that makes the clauses true is one whose inputs make the roots true. -/
import Derived.Test.YtjeopmiopinlgaaTsThere
import Derived.Test.YtjeopmiopinlgaaTsBk
set_option linter.unusedVariables false
set_option linter.unusedSimpArgs false
namespace Go.Proofs.Ytjeopmiopinlgaa
open Go Go.RowKit SL

theorem claims_old {W : World} {b : Nat} (h : b < W.heap.size) : SL.Claims (Old W) b := fun k p => by
  unfold Old at p; subst p
  unfold hl
  rw [Array.getElem?_eq_getElem h]; simp
theorem rd_nat_int {w : World} {v : Value} {xs : List Nat} (h : Rd (cNat .i64) v xs w) : Rd (cInt .i64) v (xs.map Int.ofNat) w := by
  obtain ⟨A, c, rfl, hm, hc⟩ := h
  refine ⟨A, c, by rw [List.length_map], by simpa using hm, fun i x hx => ?_⟩
  rw [List.getElem?_map] at hx
  cases hxs : xs[i]? with
  | none => rw [hxs] at hx; cases hx
  | some y =>
    rw [hxs] at hx
    have : x = Int.ofNat y := by simpa using hx.symm
    subst this
    obtain ⟨ad, hA, hr⟩ := hc i y hxs
    exact ⟨ad, hA, hr⟩
def Yes (b : Bool) : Prop := b = true
/-- Truth under an assignment, as the law asks it. -/
def trueB (kl : Nat) (cls : List (List Int)) (m : List Int) : Bool := decide ((underM kl cls m).2.2 = 0) && decide ((underM kl cls m).1 = 1) && decide ((m.length : Int) = kl)
theorem trueB_iff {ns : Nodes} {roots : List Nat} (hgd : GoodG ns) (hx : ∀ r ∈ roots, r < 2 * ns.length) (hl : 7 * (coneM ns roots).length + roots.length ≤ 4194304) (hl2 : (coneM ns roots).length ≤ 1048576) (wants : List Nat) (hc : (clausesM ns wants roots).length ≤ 1048576)
    {U : Nat → Bool} (h0 : U 0 = false) : trueB (coneM ns roots).length (clausesM ns wants roots) (fillV U (coneM ns roots)) = true ↔ ∀ c ∈ clausesM ns wants roots, valM c (fillV U (coneM ns roots)) = 1 := by
  have hck := clausesM_check hgd hx wants hl hl2 hc
  have h1 := clauses_vals hgd hx hl2 h0 wants
  have h3 := underFrom_val (fillV U (coneM ns roots)) (clausesM ns wants roots) 0 h1
  have e : underM (coneM ns roots).length (clausesM ns wants roots) (fillV U (coneM ns roots)) = underFrom (fillV U (coneM ns roots)) 0 (-1) (clausesM ns wants roots) := by
    unfold underM; rw [hck, if_neg (by simp)]
  unfold trueB
  rw [e, decide_eq_true h3.1, decide_eq_true (show ((fillV U (coneM ns roots)).length : Int) = (coneM ns roots).length by simp [fillV])]
  rw [Bool.true_and, Bool.and_true, decide_eq_true_iff]
  exact h3.2
/-- The law's assignment: 1 where the number is above 0. -/
def fz (m : List Int) (i : Nat) : Int := if i < m.length ∧ 0 < m.getD i 0 then 1 else -1
def fullTo (m : List Int) (n j : Nat) : List Int := (List.range j).map (fz m) ++ List.replicate (n - j) 0
theorem fullTo_length (m : List Int) {n j : Nat} (h : j ≤ n) : (fullTo m n j).length = n := by simp [fullTo]; omega
theorem fullTo_at (m : List Int) {n j : Nat} (h : j < n) : (fullTo m n j)[j]? = some 0 := by
  unfold fullTo
  rw [List.getElem?_append_right (by simp), List.getElem?_replicate]
  simp; omega
theorem fullTo_succ (m : List Int) {n j : Nat} (h : j < n) : fullTo m n (j + 1) = (fullTo m n j).set j (fz m j) := by
  unfold fullTo
  rw [List.range_succ, List.map_append, List.set_append_right _ _ (by simp), show n - j = (n - (j + 1)) + 1 by omega, List.replicate_succ]
  simp
theorem fz_or (m : List Int) (i : Nat) : fz m i = 1 ∨ fz m i = -1 := by unfold fz; split <;> simp

set_option maxRecDepth 100000 in
set_option maxHeartbeats 8000000 in
theorem back_walk (W : World) (vs vw vi : Value) (script : List Mk3) (which : List Int) (m : List Int) (hr : Ent [Old W] (Rd cMade3 vs script)) (hin : ∀ s ∈ script, MkIn3 s) (hw : Ent [Old W] (Rd (cInt .i64) vw which)) (hwi : ∀ i ∈ which, In64' i) (hm : Ent [Old W] (Rd (cInt .i8) vi m)) (hmb : ∀ x ∈ m, -128 ≤ x ∧ x ≤ 127) (hsz : 4 * script.length + 1 * which.length ≤ 1048576) :
    Calls Try.prog 8 #[vs, vw, vi] W fun e w' => e = .returned (.bool true) ∧ SL.St W [Old W] w' := by
  have h := SL.St.start W
  have ok := madeT_ok script (by omega)
  go_enter Try.func8, Try.ntmps8
  go_wp2_with fail
  refine (made_t W W _ h vs script hr hin (by omega)).mono ?_
  rintro e w1 ⟨g, r, vo, rfl, h1⟩
  have hro := someM_lt ok which
  have hrl := someM_length (madeT script).2 which []
  have hnum := madeT_inNum script (by omega)
  have hsl := ok.small; have hgd := ok.good; have hlen := ok.len; have hlits := ok.lits
  generalize madeT script = p at *
  obtain ⟨ns, ls⟩ := p
  simp only at *
  rw [List.length_nil, Nat.add_zero] at hrl
  go_wp2_with fail
  refine (live_walk W w1 _ h1).mono ?_
  rintro e w2 ⟨rfl, h2⟩
  clear h h1
  go_wp2_with fail
  refine (some_walk W w2 _ h2 vo vw (.slice none 0 0) ls which [] Ent.rd (Ent.tail (Ent.tail (Ent.tail hw))) (fun _ _ _ => rd_nil) (fun y hy => by have := hlits y hy; omega) (by omega) (by omega) hwi (by omega) (by simp)).mono ?_
  rintro e w3 ⟨vr, rfl, h3⟩
  clear h2
  have hKl := coneM_length ns (someM ls which []) hgd.pos
  have hc1 := clausesM_length ns (encodeW ns (coneM ns (someM ls which []))) (someM ls which [])
  have hc2 := clausesM_length ns (polarW ns (someM ls which [])) (someM ls which [])
  have hinl := inputsOf_length ns
  generalize someM ls which [] = roots at *
  have h4 : SL.St W (Graph g ns :: Arr (cNat .u32) 42 vr roots :: RGraph r (rnodes ns) (inputsOf ns).length :: [Old W]) w3 := h3.sel [2, 0, 3] 1
  clear h3
  go_wp2_with fail
  refine (Encode_walk W w3 _ g ns h4 hgd.wf (by omega) vr roots Ent.rd hro (by omega) (by omega)).mono ?_
  rintro e w5 ⟨vf, vc, rfl, h7⟩
  obtain ⟨Af, cf, rfl, _⟩ := h7.rd2.at
  go_wp2_with fail
  have h8 : SL.St W (Graph g ns :: Arr (cNat .u32) 42 vr roots :: RGraph r (rnodes ns) (inputsOf ns).length :: Blk w5.heap.size (.cells #[.int .i64 (coneM ns roots).length, .slice Af (clausesM ns (encodeW ns (coneM ns roots)) roots).length cf] 33 (0, 0)) :: Arr2 (cInt .i64) 3 60 (.slice Af (clausesM ns (encodeW ns (coneM ns roots)) roots).length cf) (clausesM ns (encodeW ns (coneM ns roots)) roots) :: Arr (cNat .i64) 3 vc (coneM ns roots) :: [Old W]) _ :=
    (SL.St.alloc h7 (.cells #[.int .i64 (coneM ns roots).length, .slice Af (clausesM ns (encodeW ns (coneM ns roots)) roots).length cf] 33)).sel [3, 4, 5, 0, 1, 2]
  clear h4 h7
  refine (Polar_walk W _ _ g ns h8 hgd.wf (by omega) vr roots Ent.rd hro (by omega) (by omega)).mono ?_
  rintro e w6 ⟨vp, vd, rfl, h9⟩
  obtain ⟨Ap, cp, rfl, _⟩ := h9.rd2.at
  generalize w5.heap.size = FE at *
  have nw := fun w => no_walk w 0 (by decide) (by decide)
  obtain ⟨Ac, cc, rfl, -, -⟩ := (h9.pull 7).rd
  obtain ⟨Ad, cd, rfl, -, -⟩ := (h9.pull 1).rd
  go_wp2_with (go_at_call 14; refine (nw _).mono ?_; rintro e w' ⟨rfl, rfl⟩)
  have hA : SL.St W (Graph g ns :: Arr (cNat .u32) 42 vr roots :: RGraph r (rnodes ns) (inputsOf ns).length :: Blk w6.heap.size (.cells #[.int .i64 (coneM ns roots).length, .slice Ap (clausesM ns (polarW ns roots) roots).length cp] 33 (0, 0)) :: Arr2 (cInt .i64) 3 60 (.slice Ap (clausesM ns (polarW ns roots) roots).length cp) (clausesM ns (polarW ns roots) roots) :: Blk FE (.cells #[.int .i64 (coneM ns roots).length, .slice Af (clausesM ns (encodeW ns (coneM ns roots)) roots).length cf] 33 (0, 0)) :: Arr2 (cInt .i64) 3 60 (.slice Af (clausesM ns (encodeW ns (coneM ns roots)) roots).length cf) (clausesM ns (encodeW ns (coneM ns roots)) roots) :: Arr (cNat .i64) 3 (.slice Ac (coneM ns roots).length cc) (coneM ns roots) :: Arr (cNat .i64) 3 (.slice Ad (coneM ns roots).length cd) (coneM ns roots) :: [Old W]) _ :=
    (SL.St.alloc h9 (.cells #[.int .i64 (coneM ns roots).length, .slice Ap (clausesM ns (polarW ns roots) roots).length cp] 33)).sel [3, 4, 5, 0, 1, 6, 7, 8, 2]
  clear h8 h9
  generalize w6.heap.size = FP at *
  refine (sameInts_q _ _ _ (coneM ns roots) (coneM ns roots) (hA.pull 7).rd (hA.pull 8).rd).mono ?_
  rintro e w7 ⟨rfl, q, rfl⟩
  have hB := SL.St.drewN hA q
  generalize World.drewN _ q = w7 at hB ⊢
  clear hA
  simp only [decide_true]
  have hkb : (coneM ns roots).length ≤ 1048576 := by omega
  have f0 : w7.cell? ⟨FE, 0, none⟩ = some (.int .i64 ((coneM ns roots).length : Nat)) := (hB.pull 5).cell 0
  have f1 : w7.cell? ⟨FP, 0, none⟩ = some (.int .i64 ((coneM ns roots).length : Nat)) := (hB.pull 3).cell 0
  have hne : (((coneM ns roots).length : Int) != ((coneM ns roots).length : Int)) = false := by simp
  have hmk := run_make_row' (P := Try.prog) 50 72 (.int .i8 0) 1 Try.underlying50 infoI8 rfl .i64 .i64 (coneM ns roots).length (by omega) (by omega)
  go_wp2_with fail
  have hC := (SL.St.alloc hB (.cells (madeCells #[Value.int .i8 0] (coneM ns roots).length) 72)).arr_made (d := cInt .i8) rfl (x := 0) rfl (by unfold maxLen; omega)
  have hli := (coneM_lined hgd.wf roots hro).1
  have h0K : 0 ∉ coneM ns roots := fun h => (hli.mem 0 h).1 rfl
  have hKlt : ∀ m ∈ coneM ns roots, m < ns.length := fun m hm => (hli.mem m hm).2
  have tE := fun (U : Nat → Bool) (h0 : U 0 = false) => trueB_iff hgd hro (by omega) (by omega) (encodeW ns (coneM ns roots)) (by omega) h0
  have tP := fun (U : Nat → Bool) (h0 : U 0 = false) => trueB_iff hgd hro (by omega) (by omega) (polarW ns roots) (by omega) h0
  have iE := clausesM_i64 (ns := ns) (roots := roots) (encodeW ns (coneM ns roots)) (by omega)
  have iP := clausesM_i64 (ns := ns) (roots := roots) (polarW ns roots) (by omega)
  have hsub := clausesM_sub hgd.wf (polarW ns roots) _ hro
  have bA := fun (U V : Nat → Bool) h0 hV => back_all (U := U) (V := V) hgd hnum hro (by omega) h0 hV
  have bP := fun (U V : Nat → Bool) h0 hV => back_polar (U := U) (V := V) hgd hnum hro (by omega) h0 hV
  have hig : inGraph ns ((coneM ns roots).map Int.ofNat) := by
    intro n hn
    obtain ⟨k, hk, rfl⟩ := List.mem_map.1 hn
    have := hKlt k hk
    exact ⟨Int.natCast_nonneg k, by show ((k : Nat) : Int) < _; omega⟩
  have hrb : roots.length ≤ 1048576 := by omega
  have hFv := fun (row : List Bool) (V : Nat → Bool) (hv : IsVal ns (fun i => row.getD i false) V) => fillM_val hgd hro hv
  generalize w7.heap.size = gs at *
  generalize World.alloc w7 _ = w9 at hC ⊢
  clear hB hmk hc1 hc2 f0 f1
  generalize hEE : clausesM ns (encodeW ns (coneM ns roots)) roots = E at *
  generalize hPP : clausesM ns (polarW ns roots) roots = P at *
  clear hEE hPP
  have hC2 : SL.St W (Arr (cInt .i8) 72 (.slice (some ⟨gs, 0, none⟩) (coneM ns roots).length (coneM ns roots).length) (List.replicate (coneM ns roots).length 0) :: Graph g ns :: Arr (cNat .u32) 42 vr roots :: RGraph r (rnodes ns) (inputsOf ns).length :: Blk FP (.cells #[.int .i64 (coneM ns roots).length, .slice Ap P.length cp] 33 (0, 0)) :: Arr2 (cInt .i64) 3 60 (.slice Ap P.length cp) P :: Blk FE (.cells #[.int .i64 (coneM ns roots).length, .slice Af E.length cf] 33 (0, 0)) :: Arr2 (cInt .i64) 3 60 (.slice Af E.length cf) E :: Arr (cNat .i64) 3 (.slice Ac (coneM ns roots).length cc) (coneM ns roots) :: [Old W]) w9 := hC.sel [0, 1, 2, 3, 4, 5, 6, 7, 8] 1
  clear hC
  generalize hK : coneM ns roots = K at *
  have HKE := Lib.hid hK; clear hK
  have hmW := hm.use (SL.St.start W)
  have mE : Ent (Graph g ns :: Arr (cNat .u32) 42 vr roots :: RGraph r (rnodes ns) (inputsOf ns).length :: Blk FP (.cells #[.int .i64 K.length, .slice Ap P.length cp] 33 (0, 0)) :: Arr2 (cInt .i64) 3 60 (.slice Ap P.length cp) P :: Blk FE (.cells #[.int .i64 K.length, .slice Af E.length cf] 33 (0, 0)) :: Arr2 (cInt .i64) 3 60 (.slice Af E.length cf) E :: Arr (cNat .i64) 3 (.slice Ac K.length cc) K :: [Old W]) (Rd (cInt .i8) vi m) := Ent.tail (Ent.tail (Ent.tail (Ent.tail (Ent.tail (Ent.tail (Ent.tail (Ent.tail hm)))))))
  have AP : ∀ (w : World) (xs : List Int), SL.St W (Arr (cInt .i8) 72 (.slice (some ⟨gs, 0, none⟩) K.length K.length) xs :: Graph g ns :: Arr (cNat .u32) 42 vr roots :: RGraph r (rnodes ns) (inputsOf ns).length :: Blk FP (.cells #[.int .i64 K.length, .slice Ap P.length cp] 33 (0, 0)) :: Arr2 (cInt .i64) 3 60 (.slice Ap P.length cp) P :: Blk FE (.cells #[.int .i64 K.length, .slice Af E.length cf] 33 (0, 0)) :: Arr2 (cInt .i64) 3 60 (.slice Af E.length cf) E :: Arr (cNat .i64) 3 (.slice Ac K.length cc) K :: [Old W]) w → ∀ b, b < W.heap.size → gs ≠ b :=
    fun w xs hs b hb => hs.apart2 0 9 rfl claims_arr (claims_old hb)
  generalize hL : Graph g ns :: Arr (cNat .u32) 42 vr roots :: RGraph r (rnodes ns) (inputsOf ns).length :: Blk FP (.cells #[.int .i64 K.length, .slice Ap P.length cp] 33 (0, 0)) :: Arr2 (cInt .i64) 3 60 (.slice Ap P.length cp) P :: Blk FE (.cells #[.int .i64 K.length, .slice Af E.length cf] 33 (0, 0)) :: Arr2 (cInt .i64) 3 60 (.slice Af E.length cf) E :: Arr (cNat .i64) 3 (.slice Ac K.length cc) K :: [Old W] = L at *
  have HL := Lib.hid hL.symm; clear hL
  obtain ⟨Am, cm, rfl, hml, hmc⟩ := hmW
  unfold maxLen at hml
  have HMC := Lib.hid hmc; clear hmc
  go_loopg [19] K.length (fun k i wr => ∃ j : Nat, j ≤ K.length ∧ k = K.length - j ∧ i = .int .i64 j ∧ SL.St W (Arr (cInt .i8) 72 (.slice (some ⟨gs, 0, none⟩) K.length K.length) (fullTo m K.length j) :: L) wr)
  case atStart => exact ⟨0, Nat.zero_le _, rfl, rfl, by simpa [fullTo] using hC2⟩
  case round =>
    clear hC2
    obtain ⟨j, hj, hgk, rfl, hsr⟩ := hrel
    subst hgk
    by_cases hlt : j < K.length
    · have HS := Lib.hid (fullTo_succ m hlt)
      have hfl := Lib.hid (fullTo_length m hj)
      have hfz : fz m j = if j < m.length ∧ 0 < m.getD j 0 then 1 else -1 := rfl
      obtain ⟨c0, c1⟩ := hsr.arr_cell1 rfl j 0 (fullTo_at m hlt) _ rfl
      have s1 := hsr.arr_set1 rfl j (by rw [hfl.out]; exact hlt) (-1) _ rfl
      have s2 := s1.arr_set1 rfl j (by rw [List.length_set, hfl.out]; exact hlt) 1 _ rfl
      rw [List.set_set] at s2
      have S1 := Lib.hid s1; have S2 := Lib.hid s2; clear s1 s2
      generalize fullTo m K.length j = z at *
      by_cases hjm : j < m.length
      · have d1 : decide ((j : Int) < (m.length : Int)) = true := decide_eq_true (by omega)
        obtain ⟨A', c', hv, -, hc⟩ := mE.use hsr.drop
        obtain ⟨ad, hA', hcell⟩ := rd_at_int hc j hjm
        obtain rfl : Am = some ad := by
          have : A' = Am := by injection hv with h1; exact h1.symm
          rw [← this]; exact hA'
        obtain ⟨ad2, hA2, hcW⟩ := rd_at_int HMC.out j hjm
        have e2 : ad2 = ad := (Option.some.inj hA2).symm
        subst e2
        have hblt := World.block_lt_of_cell? W _ hcW
        have hne2 : (⟨gs, j, none⟩ : Addr) ≠ ad2.add j := fun e => AP wr z hsr _ hblt (congrArg Addr.block e)
        have hgd2 : m.getD j 0 = m[j] := by simp [List.getD_eq_getElem?_getD, hjm]
        rw [hgd2] at hfz
        clear hc hv hA' hcW hblt hgd2 hA2
        generalize m[j] = y at *
        by_cases hy : 0 < y
        · have d2 : decide (0 < y) = true := decide_eq_true hy
          rw [if_pos ⟨hjm, hy⟩] at hfz
          have HF := Lib.hid hfz; clear hfz
          go_wp2_with fail
          go_roundg (K.length - (j + 1))
          case measure => omega
          case rel => exact ⟨j + 1, by omega, rfl, by go_num, by rw [HS.out, HF.out]; exact S2.out⟩
        · have d2 : decide (0 < y) = false := decide_eq_false hy
          have hy' : y ≤ 0 := by omega
          rw [if_neg (fun h => hy h.2)] at hfz
          have HF := Lib.hid hfz; clear hfz hy
          go_wp2_with fail
          go_roundg (K.length - (j + 1))
          case measure => omega
          case rel => exact ⟨j + 1, by omega, rfl, by go_num, by rw [HS.out, HF.out]; exact S1.out⟩
      · have hge : m.length ≤ j := by omega
        rw [if_neg (fun h => hjm h.1)] at hfz
        have HF := Lib.hid hfz; clear hfz hjm
        go_wp2_with fail
        go_roundg (K.length - (j + 1))
        case measure => omega
        case rel => exact ⟨j + 1, by omega, rfl, by go_num, by rw [HS.out, HF.out]; exact S1.out⟩
    · obtain rfl : j = K.length := by omega
      have hfull : fullTo m K.length K.length = (List.range K.length).map (fz m) := by simp [fullTo]
      rw [hfull] at hsr
      obtain ⟨U, hU0, hU⟩ := fill_of hli.nodup hKlt h0K ((List.range K.length).map (fz m)) (by simp) (fun x hx => by
        obtain ⟨i, -, rfl⟩ := List.mem_map.1 hx; exact fz_or m i)
      rw [hU] at hsr
      clear hU hfull
      rw [HL.out] at hsr
      have p0 : wr.cell? ⟨FE, 0, none⟩ = some (.int .i64 (K.length : Nat)) := (hsr.pull 6).cell 0
      have p1 : wr.cell? ⟨FE, 1, none⟩ = some (.slice Af E.length cf) := (hsr.pull 6).cell 1
      have hkI : I64 (K.length : Int) := by unfold I64; omega
      have fb := fillV_bound U K
      have kE := tE U hU0
      have kP := tP U hU0
      have c3 : Calls Try.prog 24 #[.agg #[.int .i64 K.length, .slice Af E.length cf], .slice (some ⟨gs, 0, none⟩) K.length K.length] wr fun e w' => e = .returned (.bool (trueB K.length E (fillV U K))) ∧ _ :=
        true1_walk W wr _ hsr K.length hkI _ _ E (fillV U K) (Ent.tail (Ent.tail (Ent.tail (Ent.tail (Ent.tail (Ent.tail (Ent.tail Ent.rd2))))))) iE Ent.rd fb
      generalize trueB K.length E (fillV U K) = a at *
      go_wp2_with fail
      refine c3.mono ?_
      rintro e wA ⟨rfl, hA⟩
      clear c3 hsr p0 p1
      have p0 : wA.cell? ⟨FP, 0, none⟩ = some (.int .i64 (K.length : Nat)) := (hA.pull 4).cell 0
      have p1 : wA.cell? ⟨FP, 1, none⟩ = some (.slice Ap P.length cp) := (hA.pull 4).cell 1
      have c4 : Calls Try.prog 24 #[.agg #[.int .i64 K.length, .slice Ap P.length cp], .slice (some ⟨gs, 0, none⟩) K.length K.length] wA fun e w' => e = .returned (.bool (trueB K.length P (fillV U K))) ∧ _ :=
        true1_walk W wA _ hA K.length hkI _ _ P (fillV U K) (Ent.tail (Ent.tail (Ent.tail (Ent.tail (Ent.tail Ent.rd2))))) iP Ent.rd fb
      generalize trueB K.length P (fillV U K) = b at *
      go_wp2_with fail
      refine c4.mono ?_
      rintro e wB ⟨rfl, hB⟩
      clear c4 hA p0 p1
      have hB2 : SL.St W (Graph g ns :: Arr (cInt .i8) 72 (.slice (some ⟨gs, 0, none⟩) K.length K.length) (fillV U K) :: Arr (cNat .u32) 42 vr roots :: RGraph r (rnodes ns) (inputsOf ns).length :: Arr (cNat .i64) 3 (.slice Ac K.length cc) K :: [Old W]) wB := hB.sel [1, 0, 2, 3, 8] 4
      clear hB
      have hab : Yes a → Yes b := fun h => kP.2 fun c hc => kE.1 h c (hsub.subset hc)
      have row0 := liftFrom_length ns (fillV U K) (List.replicate (inputsOf ns).length false) 0 (K.map Int.ofNat)
      rw [List.length_replicate] at row0
      have hrl : (liftM ns (K.map Int.ofNat) (fillV U K)).length = (inputsOf ns).length := row0
      clear row0
      obtain ⟨V, hV⟩ := exists_val hgd.wf (fun i => (liftM ns (K.map Int.ofNat) (fillV U K)).getD i false)
      have hA1 : Yes a → fillV V K = fillV U K := fun h => bA U V hU0 hV (kE.1 h)
      have hP1 : Yes b → ∀ r ∈ roots, litB V r = true := fun h => bP U V hU0 hV (kP.1 h)
      have lw := Lift_walk W wB _ g ns hB2 hgd.wfIn (by omega) (.slice Ac K.length cc) (.slice (some ⟨gs, 0, none⟩) K.length K.length) (K.map Int.ofNat) (fillV U K) (Ent.tail (Ent.tail (Ent.tail (fun _ _ s => rd_nat_int s.rd)))) Ent.rd hig
      have hF2 := hFv _ V hV
      generalize hrow : liftM ns (K.map Int.ofNat) (fillV U K) = row at *
      have hKl2 : (coneM ns roots).length ≤ 1048576 := by rw [HKE.out]; exact hkb
      have HAB := Lib.hid hab; have HA1 := Lib.hid hA1; have HP1 := Lib.hid hP1; have HKL := Lib.hid hKl2; have HRL := Lib.hid hrl; have HVV := Lib.hid hV; have HF2 := Lib.hid hF2; have HRO := Lib.hid hro; have HGD := Lib.hid hgd; have HFB := Lib.hid fb
      clear kE kP tE tP iE iP hsub bA bP hig hFv hU0 hab hA1 hP1 hKl2 hrl hV hF2 hrow hro hgd hli h0K hKlt fb mE AP HL hkI
      have tail : ∀ (a' b' : Bool), a' = a → b' = b → True := fun _ _ _ _ => trivial
      clear tail
      cases a <;> cases b
      case true.false => exact absurd (show false = true from HAB.out (show Yes true from rfl)) (by decide)
      all_goals
        go_wp2_with fail
        refine lw.mono ?_
        rintro e wC ⟨vin, rfl, hC⟩
        go_wp2_with fail
        have hC2 : SL.St W (Graph g ns :: Arr cBool 4 vin row :: Arr (cInt .i8) 72 (.slice (some ⟨gs, 0, none⟩) K.length K.length) (fillV U K) :: Arr (cNat .u32) 42 vr roots :: RGraph r (rnodes ns) (inputsOf ns).length :: Arr (cNat .i64) 3 (.slice Ac K.length cc) K :: [Old W]) wC := hC.swap
        refine (Fill_walk W wC _ g ns hC2 HGD.out.wf HGD.out.wfIn (by omega) vr vin roots (Ent.tail (Ent.tail Ent.rd)) HRO.out HKL.out row Ent.rd HRL.out).mono ?_
        rintro e wD ⟨vag, rfl, hD⟩
        rw [HF2.out] at hD
        clear hC hC2 lw
        have hD2 : SL.St W (RGraph r (rnodes ns) (inputsOf ns).length :: Arr (cInt .i8) 72 vag (fillV V K) :: Arr cBool 4 vin row :: Arr (cInt .i8) 72 (.slice (some ⟨gs, 0, none⟩) K.length K.length) (fillV U K) :: Arr (cNat .u32) 42 vr roots :: [Old W]) wD := hD.sel [5, 0, 2, 3, 4] 2
        clear hD
        go_wp2_with fail
        refine (rEval_walk W wD _ r ns hD2 HGD.out.wf HGD.out.wfIn (by omega) vin row (Ent.tail Ent.rd) HRL.out vr roots (Ent.tail (Ent.tail (Ent.tail Ent.rd))) HRO.out (by omega) V HVV.out).mono ?_
        rintro e wE ⟨vv, rfl, hE⟩
        clear hD2
        have hbl : (roots.map (litB V)).length ≤ 1048576 := by simp; omega
        obtain ⟨Av, cv, rfl, -, hvc⟩ := hE.rd
        obtain ⟨Ag2, cg2, rfl, -, -⟩ := (hE.pull 2).rd
        have HE := Lib.hid hE; have HVC := Lib.hid hvc; clear hE hvc
        have HBT := Lib.hid (show ∀ (bb : Bool), (Yes bb → ∀ r ∈ roots, litB V r = true) → Yes bb → ∀ y ∈ roots.map (litB V), y = true from fun bb h1 h2 y hy => by
          obtain ⟨r, hr, rfl⟩ := List.mem_map.1 hy; exact h1 h2 r hr)
        generalize roots.map (litB V) = bs at *
        go_wp2_with (go_at_call 14; refine (nw _).mono ?_; rintro e w' ⟨rfl, rfl⟩)
        go_loop [28] (fun i => ∃ j : Nat, j ≤ bs.length ∧ i = .int .i64 j) (fun i => bs.length - (intOf i).toNat)
        case atStart => exact ⟨0, Nat.zero_le _, rfl⟩
        case round =>
          obtain ⟨j, hj, rfl⟩ := hrel
          by_cases hlt : j < bs.length
          · obtain ⟨ad, rfl, hcell⟩ := rd_at_bool HVC.out j hlt
            have hmem : bs[j] ∈ bs := List.getElem_mem hlt
            have HY := Lib.hid (fun h => HBT.out _ HP1.out h _ hmem)
            clear hmem
            generalize bs[j] = y at *
            first
            | (go_wp2_with fail
               go_round
               case rel => exact ⟨j + 1, by omega, by go_num⟩
               case measure => simp [intOf]; omega)
            | (have hy := HY.out (show Yes true from rfl)
               subst hy
               go_wp2_with fail
               go_round
               case rel => exact ⟨j + 1, by omega, by go_num⟩
               case measure => simp [intOf]; omega)
          · obtain rfl : j = bs.length := by omega
            have hE := HE.out
            first
            | (have heq := HA1.out (show Yes true from rfl)
               have sr := sameRow_q wE _ _ (fillV U K) (fillV V K) (hE.pull 4).rd (hE.pull 2).rd
               rw [decide_eq_true heq.symm] at sr
               clear heq
               go_wp2_with fail
               refine sr.mono ?_
               rintro e wF ⟨rfl, q, rfl⟩
               go_wp2_with fail
               go_ret
               exact ⟨rfl, (SL.St.drewN hE q).sel [6] 6⟩)
            | (go_wp2_with fail
               go_ret
               exact ⟨rfl, hE.sel [6] 6⟩)
end Go.Proofs.Ytjeopmiopinlgaa
