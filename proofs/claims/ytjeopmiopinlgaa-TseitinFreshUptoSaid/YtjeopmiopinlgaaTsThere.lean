/- TseitinThere: inputs that make the roots true make the clauses true. -/
import Derived.Test.YtjeopmiopinlgaaCnfU
import Derived.Test.YtjeopmiopinlgaaTsE
import Derived.Test.YtjeopmiopinlgaaTsU
import Derived.Test.YtjeopmiopinlgaaTsFew
import Derived.Test.YtjeopmiopinlgaaTsW
/- The laws' fit and true1. -/
set_option linter.unusedVariables false
set_option linter.unusedSimpArgs false
namespace Go.Proofs.Ytjeopmiopinlgaa
open Go Go.RowKit SL

def fitTo (n : Nat) (inn : List Bool) (j : Nat) : List Bool := inn.take j ++ List.replicate (n - j) false
def fitM (n : Nat) (inn : List Bool) : List Bool := fitTo n inn (min n inn.length)
theorem fitM_length (n : Nat) (inn : List Bool) : (fitM n inn).length = n := by simp [fitM, fitTo]; omega

set_option maxRecDepth 100000 in
set_option maxHeartbeats 2000000 in
theorem fit_walk (w0 w : World) (l : List HP) (r N : Nat) (ns : Nodes) (h : SL.St w0 (RGraph r (rnodes ns) N :: l) w) (hN : N ≤ 1073741824) (v : Value) (inn : List Bool) (hr : Ent l (Rd cBool v inn)) :
    Calls Try.prog 20 #[.pointer (some ⟨r, 0, none⟩), v] w fun e w' => ∃ vo, e = .returned vo ∧ SL.St w0 (Arr cBool 4 vo (fitM N inn) :: RGraph r (rnodes ns) N :: l) w' := by
  obtain ⟨A, c, hv, hm, -⟩ := hr.use h.drop
  subst hv
  unfold maxLen at hm
  obtain ⟨Ag, cg, -, g1⟩ := rg_slice h
  have hmk := run_make_row' (P := Try.prog) 48 4 (.bool false) 1 Try.underlying48 infoBool rfl .i64 .i64 N (by omega) (by omega)
  have h2 := (h.alloc (.cells (madeCells #[Value.bool false] N) 4)).arr_made (d := cBool) rfl (x := false) rfl (by unfold maxLen; omega)
  have hF : fitM N inn = fitTo N inn (min N inn.length) := rfl
  generalize fitM N inn = F at *
  have HF := Lib.hid hF; clear hF
  go_enter Try.func20, Try.ntmps20
  go_wp2_with fail
  generalize w.heap.size = gs at h2 ⊢
  generalize (World.alloc w _) = w2 at h2 ⊢
  clear hmk h g1
  go_loopg [6] (min N inn.length) (fun k i wr => ∃ j : Nat, j ≤ min N inn.length ∧ k = min N inn.length - j ∧ i = .int .i64 j ∧ SL.St w0 (Arr cBool 4 (.slice (some ⟨gs, 0, none⟩) N N) (fitTo N inn j) :: RGraph r (rnodes ns) N :: l) wr)
  case atStart => exact ⟨0, Nat.zero_le _, rfl, rfl, by simpa [fitTo] using h2⟩
  case round =>
    clear h2
    obtain ⟨j, hj, hgk, rfl, hsr⟩ := hrel
    subst hgk
    by_cases hlt : j < N
    · have d1 : decide ((j : Int) < (N : Int)) = true := decide_eq_true (by omega)
      by_cases hlt2 : j < inn.length
      · have d2 : decide ((j : Int) < (inn.length : Int)) = true := decide_eq_true (by omega)
        obtain ⟨A', c', hv, -, hc⟩ := hr.use (hsr.sel [] 2)
        obtain ⟨ad, hA', hcell⟩ := rd_at_bool hc j hlt2
        obtain rfl : A = some ad := by
          have : A' = A := by injection hv with h1; exact h1.symm
          rw [← this]; exact hA'
        have HT := Lib.hid (show fitTo N inn (j + 1) = (fitTo N inn j).set j inn[j] by
          unfold fitTo
          rw [List.take_succ_eq_append_getElem hlt2, List.set_append_right _ _ (by simp; omega)]
          rw [show j - (inn.take j).length = 0 by simp; omega, show N - j = (N - (j + 1)) + 1 by omega, List.replicate_succ]
          rw [List.set_cons_zero, List.append_assoc]; rfl)
        have hfl : (fitTo N inn j).length = N := by simp [fitTo]; omega
        have hf0 : (fitTo N inn j)[j]? = some false := by
          unfold fitTo
          rw [List.getElem?_append_right (by simp; omega), show j - (inn.take j).length = 0 by simp; omega, List.getElem?_replicate]
          simp; omega
        clear hc hv hA'
        generalize fitTo N inn j = z at *
        generalize inn[j] = b at *
        obtain ⟨c0, c1⟩ := hsr.arr_cell1 rfl j false hf0 _ rfl
        have HFL := Lib.hid hfl; clear hfl hf0
        have hset := hsr.arr_set1 rfl j (by rw [HFL.out]; exact hlt) b _ rfl
        go_wp2_with fail
        go_roundg (min N inn.length - (j + 1))
        case measure => omega
        case rel => exact ⟨j + 1, by omega, rfl, by go_num, by rw [HT.out]; exact hset⟩
      · have d2 : decide ((j : Int) < (inn.length : Int)) = false := decide_eq_false (by omega)
        have HF2 := Lib.hid (show F = fitTo N inn j by rw [HF.out, show min N inn.length = j by omega])
        have hge : inn.length ≤ j := by omega
        clear hlt2
        go_wp2_with fail
        go_ret
        exact ⟨_, rfl, by rw [HF2.out]; exact hsr⟩
    · have d1 : decide ((j : Int) < (N : Int)) = false := decide_eq_false (by omega)
      have HF2 := Lib.hid (show F = fitTo N inn j by rw [HF.out, show min N inn.length = j by omega])
      have hge : N ≤ j := by omega
      clear hlt
      go_wp2_with fail
      go_ret
      exact ⟨_, rfl, by rw [HF2.out]; exact hsr⟩

set_option maxHeartbeats 2000000 in
theorem true1_walk (w0 w : World) (l : List HP) (h : SL.St w0 l w) (vars : Int) (hv : I64 vars) (vf vm : Value) (cls : List (List Int)) (m : List Int) (hr : Ent l (Rd2 (cInt .i64) vf cls)) (hI : ∀ c ∈ cls, ∀ x ∈ c, I64 x) (hm : Ent l (Rd (cInt .i8) vm m)) (hb : ∀ x ∈ m, -128 ≤ x ∧ x ≤ 127) :
    Calls Try.prog 24 #[.agg #[.int .i64 vars, vf], vm] w fun e w' => e = .returned (.bool (decide ((underM vars cls m).2.2 = 0) && decide ((underM vars cls m).1 = 1) && decide ((m.length : Int) = vars))) ∧ SL.St w0 l w' := by
  have h1 := h.alloc (.cells #[.int .i64 vars, vf] 33)
  obtain ⟨A, c, rfl, hml, -⟩ := (hr.use h).at
  obtain ⟨Am, cm, hvm, -, -⟩ := hm.use h
  subst hvm
  have uw := runder_walk w0 _ _ h1 vars hv (.slice A cls.length c) _ cls m (Ent.tail hr) hI (Ent.tail hm) hb
  generalize underM vars cls m = U at *
  obtain ⟨x, place, er⟩ := U
  simp only at uw ⊢
  have q1 : (er == 0) = decide (er = 0) := by by_cases h : er = 0 <;> simp [h]
  have q2 : (x == 1) = decide (x = 1) := by by_cases h : x = 1 <;> simp [h]
  have q3 : ((m.length : Int) == vars) = decide ((m.length : Int) = vars) := by by_cases h : (m.length : Int) = vars <;> simp [h]
  generalize decide (er = 0) = b1 at *
  generalize decide (x = 1) = b2 at *
  generalize decide ((m.length : Int) = vars) = b3 at *
  clear h h1
  cases b1 <;> cases b2 <;> cases b3
  all_goals
    go_enter Try.func24, Try.ntmps24
    go_wp2_with fail
    refine uw.mono ?_
    rintro e w1 ⟨rfl, h2⟩
    have f0 : w1.cell? ⟨w.heap.size, 0, none⟩ = some (.int .i64 vars) := h2.cell 0
    go_wp2_with fail
    go_ret
    exact ⟨rfl, h2.drop⟩
end Go.Proofs.Ytjeopmiopinlgaa
set_option linter.unusedVariables false
set_option linter.unusedSimpArgs false
namespace Go.Proofs.Ytjeopmiopinlgaa
open Go Go.RowKit SL

/-- A formula of a circuit is true under the values just where its roots are. -/
theorem under_all {ns : Nodes} {roots : List Nat} (hgd : GoodG ns) (hx : ∀ r ∈ roots, r < 2 * ns.length) (hl : 7 * (coneM ns roots).length + roots.length ≤ 4194304) (hl2 : (coneM ns roots).length ≤ 1048576) (wants : List Nat) (hc : (clausesM ns wants roots).length ≤ 1048576)
    {V : Nat → Bool} {inp : Nat → Bool} (hv : IsVal ns inp V) :
    (decide ((underM (coneM ns roots).length (clausesM ns wants roots) (fillV V (coneM ns roots))).2.2 = 0) && decide ((underM (coneM ns roots).length (clausesM ns wants roots) (fillV V (coneM ns roots))).1 = 1) && decide (((fillV V (coneM ns roots)).length : Int) = (coneM ns roots).length)) = roots.all (litB V) := by
  have hck := clausesM_check hgd hx wants hl hl2 hc
  obtain ⟨h1, h2⟩ := clausesM_val hgd hx hl2 hv wants
  have h3 := underFrom_val (fillV V (coneM ns roots)) (clausesM ns wants roots) 0 h1
  have e : underM (coneM ns roots).length (clausesM ns wants roots) (fillV V (coneM ns roots)) = underFrom (fillV V (coneM ns roots)) 0 (-1) (clausesM ns wants roots) := by
    unfold underM; rw [hck, if_neg (by simp)]
  rw [e, decide_eq_true h3.1, decide_eq_true (show ((fillV V (coneM ns roots)).length : Int) = (coneM ns roots).length by simp [fillV])]
  rw [Bool.true_and, Bool.and_true, Bool.eq_iff_iff, decide_eq_true_iff, List.all_eq_true]
  exact h3.2.trans h2
theorem fillV_bound (V : Nat → Bool) (K : List Nat) : ∀ x ∈ fillV V K, -128 ≤ x ∧ x ≤ 127 := by
  intro x hx
  obtain ⟨n, -, rfl⟩ := List.mem_map.1 hx
  rcases sgn_or (V n) with h | h <;> rw [h] <;> decide

set_option maxRecDepth 100000 in
set_option maxHeartbeats 8000000 in
theorem there_walk (W : World) (vs vw vi : Value) (script : List Mk3) (which : List Int) (inn : List Bool) (hr : Ent [Old W] (Rd cMade3 vs script)) (hin : ∀ s ∈ script, MkIn3 s) (hw : Ent [Old W] (Rd (cInt .i64) vw which)) (hwi : ∀ i ∈ which, In64' i) (hi : Ent [Old W] (Rd cBool vi inn)) (hsz : 4 * script.length + 1 * which.length ≤ 1048576) :
    Calls Try.prog 4 #[vs, vw, vi] W fun e w' => e = .returned (.bool true) ∧ SL.St W [Old W] w' := by
  have h := SL.St.start W
  have ok := madeT_ok script (by omega)
  go_enter Try.func4, Try.ntmps4
  go_wp2_with fail
  refine (made_t W W _ h vs script hr hin (by omega)).mono ?_
  rintro e w1 ⟨g, r, vo, rfl, h1⟩
  have hro := someM_lt ok which
  have hrl := someM_length (madeT script).2 which []
  have hsl := ok.small; have hgd := ok.good; have hlen := ok.len; have hlits := ok.lits
  generalize madeT script = p at *
  obtain ⟨ns, ls⟩ := p
  simp only at *
  rw [List.length_nil, Nat.add_zero] at hrl
  go_wp2_with fail
  refine (live_walk W w1 _ h1).mono ?_
  rintro e w2 ⟨rfl, h2⟩
  clear h h1
  go_wp2_with fail
  refine (some_walk W w2 _ h2 vo vw (.slice none 0 0) ls which [] Ent.rd (Ent.tail (Ent.tail (Ent.tail hw))) (fun _ _ _ => rd_nil) (fun y hy => by have := hlits y hy; omega) (by omega) (by omega) hwi (by omega) (by simp)).mono ?_
  rintro e w3 ⟨vr, rfl, h3⟩
  clear h2
  have hKl := coneM_length ns (someM ls which []) hgd.pos
  have hc1 := clausesM_length ns (encodeW ns (coneM ns (someM ls which []))) (someM ls which [])
  have hc2 := clausesM_length ns (polarW ns (someM ls which [])) (someM ls which [])
  have hinl := inputsOf_length ns
  generalize someM ls which [] = roots at *
  have h4 : SL.St W (RGraph r (rnodes ns) (inputsOf ns).length :: Graph g ns :: Arr (cNat .u32) 42 vr roots :: [Old W]) w3 := h3.sel [3, 2, 0] 1
  clear h3
  go_wp2_with fail
  refine (fit_walk W w3 _ r _ ns h4 (by omega) vi inn (Ent.tail (Ent.tail hi))).mono ?_
  rintro e w4 ⟨vrow, rfl, h5⟩
  have hfl := fitM_length (inputsOf ns).length inn
  generalize fitM (inputsOf ns).length inn = row at *
  clear h4
  have h6 : SL.St W (Graph g ns :: Arr (cNat .u32) 42 vr roots :: Arr cBool 4 vrow row :: RGraph r (rnodes ns) (inputsOf ns).length :: [Old W]) w4 := h5.sel [2, 3, 0, 1]
  clear h5
  go_wp2_with fail
  refine (Encode_walk W w4 _ g ns h6 hgd.wf (by omega) vr roots Ent.rd hro (by omega) (by omega)).mono ?_
  rintro e w5 ⟨vf, vc, rfl, h7⟩
  obtain ⟨Af, cf, rfl, _⟩ := h7.rd2.at
  go_wp2_with fail
  have h8 : SL.St W (Graph g ns :: Arr (cNat .u32) 42 vr roots :: Arr cBool 4 vrow row :: RGraph r (rnodes ns) (inputsOf ns).length :: Blk w5.heap.size (.cells #[.int .i64 (coneM ns roots).length, .slice Af (clausesM ns (encodeW ns (coneM ns roots)) roots).length cf] 33 (0, 0)) :: Arr2 (cInt .i64) 3 60 (.slice Af (clausesM ns (encodeW ns (coneM ns roots)) roots).length cf) (clausesM ns (encodeW ns (coneM ns roots)) roots) :: [Old W]) _ :=
    (SL.St.alloc h7 (.cells #[.int .i64 (coneM ns roots).length, .slice Af (clausesM ns (encodeW ns (coneM ns roots)) roots).length cf] 33)).sel [3, 4, 5, 6, 0, 1] 1
  clear h6 h7
  refine (Polar_walk W _ _ g ns h8 hgd.wf (by omega) vr roots Ent.rd hro (by omega) (by omega)).mono ?_
  rintro e w6 ⟨vp, vd, rfl, h9⟩
  obtain ⟨Ap, cp, rfl, _⟩ := h9.rd2.at
  generalize w5.heap.size = FE at *
  go_wp2_with fail
  have hA : SL.St W (Graph g ns :: Arr (cNat .u32) 42 vr roots :: Arr cBool 4 vrow row :: RGraph r (rnodes ns) (inputsOf ns).length :: Blk w6.heap.size (.cells #[.int .i64 (coneM ns roots).length, .slice Ap (clausesM ns (polarW ns roots) roots).length cp] 33 (0, 0)) :: Arr2 (cInt .i64) 3 60 (.slice Ap (clausesM ns (polarW ns roots) roots).length cp) (clausesM ns (polarW ns roots) roots) :: Blk FE (.cells #[.int .i64 (coneM ns roots).length, .slice Af (clausesM ns (encodeW ns (coneM ns roots)) roots).length cf] 33 (0, 0)) :: Arr2 (cInt .i64) 3 60 (.slice Af (clausesM ns (encodeW ns (coneM ns roots)) roots).length cf) (clausesM ns (encodeW ns (coneM ns roots)) roots) :: [Old W]) _ :=
    (SL.St.alloc h9 (.cells #[.int .i64 (coneM ns roots).length, .slice Ap (clausesM ns (polarW ns roots) roots).length cp] 33)).sel [3, 4, 5, 6, 0, 1, 7, 8] 1
  clear h8 h9
  refine (Fill_walk W _ _ g ns hA hgd.wf hgd.wfIn (by omega) vr vrow roots Ent.rd hro (by omega) row (Ent.tail Ent.rd) hfl).mono ?_
  rintro e w7 ⟨vm, rfl, hB⟩
  generalize w6.heap.size = FP at *
  clear hA
  obtain ⟨V, hV⟩ := exists_val hgd.wf (fun i => row.getD i false)
  have hF := fillM_val hgd hro hV
  rw [hF] at hB
  go_wp2_with fail
  have hC : SL.St W (RGraph r (rnodes ns) (inputsOf ns).length :: Arr (cInt .i8) 72 vm (fillV V (coneM ns roots)) :: Arr (cNat .u32) 42 vr roots :: Arr cBool 4 vrow row :: Blk FP (.cells #[.int .i64 (coneM ns roots).length, .slice Ap (clausesM ns (polarW ns roots) roots).length cp] 33 (0, 0)) :: Arr2 (cInt .i64) 3 60 (.slice Ap (clausesM ns (polarW ns roots) roots).length cp) (clausesM ns (polarW ns roots) roots) :: Blk FE (.cells #[.int .i64 (coneM ns roots).length, .slice Af (clausesM ns (encodeW ns (coneM ns roots)) roots).length cf] 33 (0, 0)) :: Arr2 (cInt .i64) 3 60 (.slice Af (clausesM ns (encodeW ns (coneM ns roots)) roots).length cf) (clausesM ns (encodeW ns (coneM ns roots)) roots) :: [Old W]) w7 :=
    hB.sel [4, 0, 2, 3, 5, 6, 7, 8] 1
  clear hB
  refine (rEval_walk W w7 _ r ns hC hgd.wf hgd.wfIn (by omega) vrow row (Ent.tail (Ent.tail Ent.rd)) hfl vr roots (Ent.tail Ent.rd) hro (by omega) V hV).mono ?_
  rintro e w8 ⟨vv, rfl, hD⟩
  have uE := under_all hgd hro (by omega) (by omega) (encodeW ns (coneM ns roots)) (by omega) hV
  have uP := under_all hgd hro (by omega) (by omega) (polarW ns roots) (by omega) hV
  have iE := clausesM_i64 (ns := ns) (roots := roots) (encodeW ns (coneM ns roots)) (by omega)
  have iP := clausesM_i64 (ns := ns) (roots := roots) (polarW ns roots) (by omega)
  have kE := clausesM_check hgd hro (encodeW ns (coneM ns roots)) (by omega) (by omega) (by omega)
  have kP := clausesM_check hgd hro (polarW ns roots) (by omega) (by omega) (by omega)
  have hE : SL.St W (Arr cBool 4 vv (roots.map (litB V)) :: Arr (cInt .i8) 72 vm (fillV V (coneM ns roots)) :: Blk FP (.cells #[.int .i64 (coneM ns roots).length, .slice Ap (clausesM ns (polarW ns roots) roots).length cp] 33 (0, 0)) :: Arr2 (cInt .i64) 3 60 (.slice Ap (clausesM ns (polarW ns roots) roots).length cp) (clausesM ns (polarW ns roots) roots) :: Blk FE (.cells #[.int .i64 (coneM ns roots).length, .slice Af (clausesM ns (encodeW ns (coneM ns roots)) roots).length cf] 33 (0, 0)) :: Arr2 (cInt .i64) 3 60 (.slice Af (clausesM ns (encodeW ns (coneM ns roots)) roots).length cf) (clausesM ns (encodeW ns (coneM ns roots)) roots) :: [Old W]) w8 :=
    hD.sel [0, 2, 5, 6, 7, 8] 3
  clear hC hD
  have hrb : roots.length ≤ 1048576 := by omega
  have hkb : (coneM ns roots).length ≤ 1048576 := by omega
  have fb := fillV_bound V (coneM ns roots)
  generalize clausesM ns (encodeW ns (coneM ns roots)) roots = E at *
  generalize clausesM ns (polarW ns roots) roots = P at *
  generalize fillV V (coneM ns roots) = m at *
  generalize (coneM ns roots).length = kl at *
  have nw := fun w => no_walk w 0 (by decide) (by decide)
  clear hF hV hro hgd hlits
  go_wp2_with (go_at_call 14; refine (nw _).mono ?_; rintro e w' ⟨rfl, rfl⟩)
  have hal : roots.all (litB V) = (roots.map (litB V)).all id := by rw [List.all_map]; rfl
  rw [hal] at uE uP
  have hbl : (roots.map (litB V)).length ≤ 1048576 := by simp; omega
  clear hal
  generalize roots.map (litB V) = bs at *
  obtain ⟨Av, cv, rfl, -, hvc⟩ := hE.rd
  have HE := Lib.hid hE; have HU := Lib.hid uE; have HP := Lib.hid uP; have HVC := Lib.hid hvc
  have HKE := Lib.hid kE; have HKP := Lib.hid kP; have HIE := Lib.hid iE; have HIP := Lib.hid iP; have HFB := Lib.hid fb
  clear hE uE uP hvc kE kP iE iP fb
  go_loop [23, 24] (fun b i => ∃ j : Nat, j ≤ bs.length ∧ i = .int .i64 j ∧ b = .bool ((bs.take j).all id)) (fun _ i => bs.length - (intOf i).toNat)
  case atStart => exact ⟨0, Nat.zero_le _, rfl, rfl⟩
  case round =>
    obtain ⟨j, hj, rfl, rfl⟩ := hrel
    by_cases hlt : j < bs.length
    · obtain ⟨ad, rfl, hcell⟩ := rd_at_bool HVC.out j hlt
      have HT := Lib.hid (show (bs.take (j + 1)).all id = ((bs.take j).all id && bs[j]) by rw [List.take_succ_eq_append_getElem hlt, List.all_append]; simp)
      generalize (bs.take j).all id = b0 at *
      generalize bs[j] = y at *
      cases b0
      all_goals
        go_wp2_with fail
        go_round
        case rel => exact ⟨j + 1, by omega, by go_num, by rw [HT.out]; simp⟩
        case measure => simp [intOf]; omega
    · obtain rfl : j = bs.length := by omega
      rw [List.take_length]
      have hE := HE.out
      have p0 : w8.cell? ⟨FP, 0, none⟩ = some (.int .i64 (kl : Nat)) := (hE.pull 2).cell 0
      have p1 : w8.cell? ⟨FP, 1, none⟩ = some (.slice Ap P.length cp) := (hE.pull 2).cell 1
      have e0 : w8.cell? ⟨FE, 0, none⟩ = some (.int .i64 (kl : Nat)) := (hE.pull 4).cell 0
      have e1 : w8.cell? ⟨FE, 1, none⟩ = some (.slice Af E.length cf) := (hE.pull 4).cell 1
      have hkI : I64 (kl : Int) := by unfold I64; omega
      have rE : Ent (Arr cBool 4 (.slice Av bs.length cv) bs :: Arr (cInt .i8) 72 vm m :: Blk FP (.cells #[.int .i64 kl, .slice Ap P.length cp] 33 (0, 0)) :: Arr2 (cInt .i64) 3 60 (.slice Ap P.length cp) P :: Blk FE (.cells #[.int .i64 kl, .slice Af E.length cf] 33 (0, 0)) :: Arr2 (cInt .i64) 3 60 (.slice Af E.length cf) E :: [Old W]) (Rd2 (cInt .i64) (.slice Af E.length cf) E) := Ent.tail (Ent.tail (Ent.tail (Ent.tail (Ent.tail Ent.rd2))))
      have rP : Ent (Arr cBool 4 (.slice Av bs.length cv) bs :: Arr (cInt .i8) 72 vm m :: Blk FP (.cells #[.int .i64 kl, .slice Ap P.length cp] 33 (0, 0)) :: Arr2 (cInt .i64) 3 60 (.slice Ap P.length cp) P :: Blk FE (.cells #[.int .i64 kl, .slice Af E.length cf] 33 (0, 0)) :: Arr2 (cInt .i64) 3 60 (.slice Af E.length cf) E :: [Old W]) (Rd2 (cInt .i64) (.slice Ap P.length cp) P) := Ent.tail (Ent.tail (Ent.tail Ent.rd2))
      have rM : Ent (Arr cBool 4 (.slice Av bs.length cv) bs :: Arr (cInt .i8) 72 vm m :: Blk FP (.cells #[.int .i64 kl, .slice Ap P.length cp] 33 (0, 0)) :: Arr2 (cInt .i64) 3 60 (.slice Ap P.length cp) P :: Blk FE (.cells #[.int .i64 kl, .slice Af E.length cf] 33 (0, 0)) :: Arr2 (cInt .i64) 3 60 (.slice Af E.length cf) E :: [Old W]) (Rd (cInt .i8) vm m) := Ent.tail Ent.rd
      go_wp2_with fail
      have c1 := rcheck_walk W w8 _ hE kl hkI _ E rE HIE.out
      rw [HKE.out] at c1
      refine c1.mono ?_
      rintro e w9 ⟨rfl, h9⟩
      clear c1 hE p0 p1 e0 e1
      have p0 : w9.cell? ⟨FP, 0, none⟩ = some (.int .i64 (kl : Nat)) := (h9.pull 2).cell 0
      have p1 : w9.cell? ⟨FP, 1, none⟩ = some (.slice Ap P.length cp) := (h9.pull 2).cell 1
      go_wp2_with fail
      have c2 := rcheck_walk W w9 _ h9 kl hkI _ P rP HIP.out
      rw [HKP.out] at c2
      refine c2.mono ?_
      rintro e wA ⟨rfl, hA⟩
      clear c2 h9 p0 p1
      have e0 : wA.cell? ⟨FE, 0, none⟩ = some (.int .i64 (kl : Nat)) := (hA.pull 4).cell 0
      have e1 : wA.cell? ⟨FE, 1, none⟩ = some (.slice Af E.length cf) := (hA.pull 4).cell 1
      go_wp2_with fail
      have c3 := true1_walk W wA _ hA kl hkI _ vm E m rE HIE.out rM HFB.out
      rw [HU.out] at c3
      refine c3.mono ?_
      rintro e wB ⟨rfl, hB⟩
      clear c3 hA e0 e1
      have p0 : wB.cell? ⟨FP, 0, none⟩ = some (.int .i64 (kl : Nat)) := (hB.pull 2).cell 0
      have p1 : wB.cell? ⟨FP, 1, none⟩ = some (.slice Ap P.length cp) := (hB.pull 2).cell 1
      have c4 := true1_walk W wB _ hB kl hkI _ vm P m rP HIP.out rM HFB.out
      rw [HP.out] at c4
      generalize bs.all id = al at *
      cases al
      · go_wp2_with fail
        go_ret
        exact ⟨rfl, hB.sel [6] 6⟩
      · go_wp2_with fail
        refine c4.mono ?_
        rintro e wC ⟨rfl, hC⟩
        go_wp2_with fail
        go_ret
        exact ⟨rfl, hC.sel [6] 6⟩
end Go.Proofs.Ytjeopmiopinlgaa
