/- The law AigLays. -/
import Derived.Test.YtjllogellpfpkaaDoorAigT
import Derived.Test.YtjllogellpfpkaaDoorAigL3
import Derived.Test.YtjllogellpfpkaaDoorLayV
import Derived.Test.YtjllogellpfpkaaDoorPrC
import Derived.Laws.BitsLemmas
set_option linter.unusedVariables false
set_option linter.unusedSimpArgs false
namespace Go.Proofs.YtjllogellpfpkaaDoor
open Go Go.RowKit SL

theorem fitM_len (n : Nat) (row : List Bool) : (fitM n row).length = n := by unfold fitM; simp; omega
theorem i64_and1 (n : Nat) (h : n < 9223372036854775808) : bits .and .i64 (n : Int) 1 = ((n % 2 : Nat) : Int) := by
  have h63 : (BitVec.ofInt 64 1).toNat = 2 ^ 1 - 1 := by decide
  have key : (BitVec.ofInt 64 (n : Int) &&& BitVec.ofInt 64 1).toNat = ((n : Int) % ((2 ^ 64 : Nat) : Int)).toNat % 2 ^ 1 := by
    rw [BitVec.toNat_and, BitVec.toNat_ofInt, h63, Nat.and_two_pow_sub_one_eq_mod]
  show IntKind.i64.wrap ((BitVec.ofInt 64 (n : Int) &&& BitVec.ofInt 64 1).toNat : Nat) = _
  rw [key, IntKind.wrap_i64]
  omega

/-- The literal that input i is laid as. -/
def putAt (b : List Nat) (over : List Int) (i : Nat) : Nat := if 0 < over.length then pickM b (over.getD (i % over.length) 0) else i % 2
def putM (b : List Nat) (over : List Int) (j : Nat) : List Nat := (List.range j).map (putAt b over)
theorem putM_succ (b : List Nat) (over : List Int) (j : Nat) : putM b over (j + 1) = putM b over j ++ [putAt b over j] := by simp [putM, List.range_succ]
theorem putM_len (b : List Nat) (over : List Int) (j : Nat) : (putM b over j).length = j := by simp [putM]
theorem putAt_lt {b : List Nat} {n : Nat} (hp : 0 < b.length) (hn : n ≠ 0) (hb : ∀ y ∈ b, y < 2 * n) (over : List Int) (i : Nat) : putAt b over i < 2 * n := by
  unfold putAt
  split
  · exact pickM_lt hp hb _
  · omega
theorem putM_lt {b : List Nat} {n : Nat} (hp : 0 < b.length) (hn : n ≠ 0) (hb : ∀ y ∈ b, y < 2 * n) (over : List Int) (j : Nat) : ∀ y ∈ putM b over j, y < 2 * n := fun y hy => by
  obtain ⟨i, _, rfl⟩ := List.mem_map.1 hy
  exact putAt_lt hp hn hb over i
/-- The values of what is laid. -/
theorem lays_law {hs gs : Nodes} {ins roots : List Nat} (gh : GoodG hs) (gg : GoodG gs) (hx : ∀ r ∈ roots, r < 2 * hs.length) (hi : ∀ y ∈ ins, y < 2 * gs.length) (hil : ins.length = (inputsOf hs).length) (hl : gs.length + hs.length ≤ 1073741824) (row : List Bool) :
    evalM hs (evalM (layM gs hs ins roots).2 row ins) roots = evalM (layM gs hs ins roots).2 row (layM gs hs ins roots).1 := by
  have HL := coneM_lined gh.wf roots hx
  have k : LayV hs gs ins (coneM hs roots) (layOver hs ins gs (coneM hs roots)) := layOver_val gh gg HL.1 hi hil hl
  have ok := (layOver_ok (ins := ins) gh HL.1 gg.pos hi hil).1
  have hgood : GoodG (layM gs hs ins roots).2 := k.good
  have hle : gs.length ≤ (layM gs hs ins roots).2.length := k.grows.le
  obtain ⟨V, hV⟩ := exists_val hgood.wf (fun i => row.getD i false)
  have e1 := evalM_val hgood.wf (row := row) (roots := ins) (fun y hy => by have := hi y hy; omega) V hV bitOf rfl
  have hm : ∀ y ∈ (layM gs hs ins roots).1, y < 2 * (layM gs hs ins roots).2.length := fun y hy => by
    obtain ⟨r, hr, rfl⟩ := List.mem_map.1 hy
    exact mvL_lt ok.lits (by rw [ok.len]; have := hx r hr; omega)
  have e2 := evalM_val hgood.wf (row := row) (roots := (layM gs hs ins roots).1) hm V hV bitOf rfl
  obtain ⟨U, hU⟩ := exists_val gh.wf (fun i => litB V (ins.getD i 0))
  have hfun : (fun i => (ins.map (litB V)).getD i false) = fun i => litB V (ins.getD i 0) := by
    funext i
    by_cases h : i < ins.length
    · simp [List.getD_eq_getElem?_getD, h]
    · simp [List.getD_eq_getElem?_getD, h, litB, hV.zero]
  have e3 := evalM_val gh.wf (row := ins.map (litB V)) (roots := roots) hx U (by rw [hfun]; exact hU) bitOf rfl
  have e4 := layM_val gh gg hx hi hil hl (fun i => row.getD i false) V U hV hU
  show (simM hs ((evalM (layM gs hs ins roots).2 row ins).map bitOf) roots).map _ = (simM (layM gs hs ins roots).2 (row.map bitOf) (layM gs hs ins roots).1).map _
  rw [e2, e4, ← e3]
  have : evalM (layM gs hs ins roots).2 row ins = ins.map (litB V) := e1
  rw [this]
theorem layM_good {hs gs : Nodes} {ins roots : List Nat} (gh : GoodG hs) (gg : GoodG gs) (hx : ∀ r ∈ roots, r < 2 * hs.length) (hi : ∀ y ∈ ins, y < 2 * gs.length) (hil : ins.length = (inputsOf hs).length) (hl : gs.length + hs.length ≤ 1073741824) :
    GoodG (layM gs hs ins roots).2 ∧ gs.length ≤ (layM gs hs ins roots).2.length ∧ (layM gs hs ins roots).2.length ≤ gs.length + hs.length ∧ (layM gs hs ins roots).1.length = roots.length ∧ ∀ y ∈ (layM gs hs ins roots).1, y < 2 * (layM gs hs ins roots).2.length := by
  have HL := coneM_lined gh.wf roots hx
  have k : LayV hs gs ins (coneM hs roots) (layOver hs ins gs (coneM hs roots)) := layOver_val gh gg HL.1 hi hil hl
  have ok := (layOver_ok (ins := ins) gh HL.1 gg.pos hi hil).1
  have hKl := HL.1.length_le
  refine ⟨k.good, k.grows.le, ?_, by simp [layM], fun y hy => ?_⟩
  · have := ok.le; show (layOver hs ins gs (coneM hs roots)).2.length ≤ _; omega
  · obtain ⟨r, hr, rfl⟩ := List.mem_map.1 hy
    exact mvL_lt ok.lits (by rw [ok.len]; have := hx r hr; omega)

theorem perm6 {G x1 x2 x3 x4 x5 H : HP} {l : List HP} : (G :: x1 :: x2 :: x3 :: x4 :: x5 :: H :: l).Perm (H :: G :: x1 :: x2 :: x3 :: x4 :: x5 :: l) := List.perm_middle (l₁ := [G, x1, x2, x3, x4, x5])
theorem perm3 {G x1 x2 H : HP} {l : List HP} : (G :: x1 :: x2 :: H :: l).Perm (H :: G :: x1 :: x2 :: l) := List.perm_middle (l₁ := [G, x1, x2])
theorem evalM_len (ns : Nodes) (row : List Bool) (roots : List Nat) : (evalM ns row roots).length = roots.length := by simp [evalM, simM]

set_option maxRecDepth 100000 in
set_option maxHeartbeats 8000000 in
theorem lays_walk (w : World) (htab : Tab w) (v : Value) (script : List Mk) (hr : Ent [Old w] (Rd cMade v script)) (hin : ∀ s ∈ script, MkIn s) (hl : script.length ≤ 2097152)
    (vu : Value) (under : List Mk) (hru : Ent [Old w] (Rd cMade vu under)) (hinu : ∀ s ∈ under, MkIn s) (hlu : under.length ≤ 2097152)
    (vo : Value) (over : List Int) (hro : Ent [Old w] (Rd (cInt .i64) vo over)) (hino : ∀ i ∈ over, -9223372036854775808 ≤ i ∧ i ≤ 9223372036854775807) (hlo : over.length ≤ 2097152)
    (vi : Value) (inp : List Bool) (hri : Ent [Old w] (Rd cBool vi inp)) (hli : inp.length ≤ 2097152) :
    Calls Tryd.prog 4 #[v, vu, vo, vi] w fun e w' => e = .returned (.bool true) ∧ SL.St w [Old w] w' := by
  obtain ⟨gH, -⟩ := madeM_good script (by omega)
  obtain ⟨gG, -⟩ := madeM_good under (by omega)
  have oH := madeM_inOk script (by omega)
  have hcH := madeM_count script (by omega)
  have okH := madeM_ok script
  have okG := madeM_ok under
  have uT : Ent [Old w] Tab := tab_old htab
  obtain ⟨A, c, hv, hm, -⟩ := hr.use (St.start w)
  obtain ⟨Au, cu, hvu, hmu, -⟩ := hru.use (St.start w)
  obtain ⟨Ao, co, hvo, hmo, -⟩ := hro.use (St.start w)
  obtain ⟨Ai, ci, hvi, hmi, -⟩ := hri.use (St.start w)
  subst hv hvu hvo hvi
  unfold maxLen at hm hmu hmo hmi
  go_enter Tryd.func4, Tryd.ntmps4
  go_wp2_with fail
  refine (New_walk w w _ (St.start w)).mono ?_
  rintro e w1 ⟨h, rfl, hs1⟩
  go_wp2_with fail
  refine (New_walk w w1 _ hs1).mono ?_
  rintro e w2 ⟨g, rfl, hs2⟩
  go_wp2_with fail
  refine (New_walk w w2 _ hs2).mono ?_
  rintro e w3 ⟨n, rfl, hs3⟩
  go_wp2_with fail
  refine (live_walk w w3 _ hs3).mono ?_
  rintro e w4 ⟨rfl, hs4⟩
  go_wp2_with fail
  refine (made2_walk w w4 _ h (hs4.sel [2, 0, 1]) _ script (Ent.tail (Ent.tail hr)) hin (by omega)).mono ?_
  rintro e w5 ⟨vl, rfl, hs5⟩
  generalize madeM script = p at *
  obtain ⟨hs, ls⟩ := p
  simp only at gH oH hcH hs5
  obtain ⟨hp0, hps, hpl, hpx⟩ := okH
  simp only at hp0 hps hpl hpx
  go_wp2_with fail
  refine (made2_walk w w5 _ g (hs5.sel [3, 0, 1, 2]) _ under (Ent.tail (Ent.tail (Ent.tail hru))) hinu (by omega)).mono ?_
  rintro e w6 ⟨vb, rfl, hs6⟩
  generalize madeM under = p at *
  obtain ⟨gs, bs⟩ := p
  simp only at gG hs6
  obtain ⟨gp0, gps, gpl, gpx⟩ := okG
  simp only at gp0 gps gpl gpx
  have hbp : 0 < bs.length := by omega
  have hIl := inputsOf_length hs
  have hbx : ∀ y ∈ bs, y < 4294967296 := fun y hy => by have := gpx y hy; omega
  have hs7 := ((hs6.rows_nil (cNat .u32) 32).rows_nil (cNat .u32) 32)
  have HPL := Lib.hid hpl; have GPL := Lib.hid gpl; clear hpl gpl
  have HC := Lib.hid (And.intro hcH (And.intro hIl (And.intro hps gps))); clear hcH hIl hps gps
  obtain ⟨Al, cl, rfl, -, -⟩ := (hs7.pull 4).rd
  go_wp2_with fail
  generalize hI : (inputsOf hs).length = I
  have HI := Lib.hid hI; clear hI
  go_loopg [16, 17, 18] I (fun k vp vw i wr => ∃ j : Nat, j ≤ I ∧ k = I - j ∧ i = .int .i64 j ∧ SL.St w (Arr (cNat .u32) 32 vp (putM bs over j) :: Arr (cNat .u32) 32 vw (ownG j) :: Graph n (insG j) :: Arr (cNat .u32) 32 vb bs :: Graph g gs :: Arr (cNat .u32) 32 (.slice Al ls.length cl) ls :: Graph h hs :: [Old w]) wr)
  case atStart => exact ⟨0, Nat.zero_le _, rfl, rfl, hs7.sel [0, 1, 6, 2, 3, 4, 5]⟩
  case round =>
    clear hs1 hs2 hs3 hs4 hs5 hs6 hs7
    obtain ⟨j, hj, hgk, rfl, hsr⟩ := hrel
    subst hgk
    have hinw := Inputs_walk w wr _ h hs (hsr.pull 6)
    rw [HI.out] at hinw
    have hIb : I ≤ 2097152 := by have := HC.out.1; have := HI.out; omega
    go_wp2_with fail
    refine hinw.mono ?_
    rintro e w' ⟨rfl, rfl⟩
    clear hinw
    by_cases hlt : j < I
    · have hand := i64_and1 j (by omega)
      have HP := Lib.hid (putM_succ bs over j)
      have HO := Lib.hid (ownG_succ j)
      have hpl := putM_len bs over j
      have hol : (ownG j).length = j := by simp [ownG]
      have hinl := insG_len j
      have hini : (inputsOf (insG j)).length = j := by rw [insG_ins]; simp
      have hig := insG_succ j
      by_cases hov : 0 < over.length
      · obtain ⟨A', c', hv, -, hc⟩ := hro.use (hsr.sel [] 7)
        have hmod := Nat.mod_lt j hov
        obtain ⟨ad, hA', hcell⟩ := rd_at_int hc (j % over.length) hmod
        obtain rfl : Ao = some ad := by
          have : A' = Ao := by injection hv with h1; exact h1.symm
          rw [← this]; exact hA'
        have hob := hino _ (List.getElem_mem hmod)
        have HA := Lib.hid (show putAt bs over j = pickM bs over[j % over.length] by
          unfold putAt; rw [if_pos hov]; simp [List.getD_eq_getElem?_getD, hmod])
        have hpl2 := putAt_lt hbp gp0 gpx over j
        clear hc hv hA'
        generalize over[j % over.length] = o at *
        have htm := tmod_nat j over.length
        generalize j % over.length = q at *
        have hpw := pick_walk wr vb bs (hsr.pull 3).rd hbx hbp (by have := GPL.out; omega) o hob.1 hob.2
        rw [← HA.out] at hpw
        generalize putAt bs over j = z at *
        have hgt : (0 : Int) < (over.length : Int) := by omega
        have hne0 : ((over.length : Int) == 0) = false := by rw [beq_eq_false_iff_ne]; omega
        go_wp2_with fail
        refine hpw.mono ?_
        rintro e w' ⟨rfl, rfl⟩
        clear hpw hcell htm
        have hpx2 : z < 4294967296 := by have := HC.out.2.2.2; omega
        have hsa := hsr.alloc (.cells #[.int .u32 (z : Nat)] 32)
        go_wp2_with (first | (at_builtin; go_loud (refine wpList_app rfl _ _ rfl Tryd.underlying29 infoU32 rfl (hsa.pull 1) rfl (ys := [z]) rfl (hsa.rd_blk (ys := [z]) 1 1 rfl rfl (by decide)) (by rw [hpl]; simp; omega) (by rw [hpl]; simp; omega) ?_); intro vp' w7 hs7))
        have hiw := input_walk w w7 _ n _ (hs7.sel [3, 0, 2, 4, 5, 6, 7] 1) (by omega)
        rw [hinl, hini, ← hig] at hiw
        clear hsa hs7
        refine hiw.mono ?_
        rintro e w8 ⟨rfl, hs8⟩
        clear hiw
        have hsb := hs8.alloc (.cells #[.int .u32 (2 * (j + 1) : Nat)] 32)
        go_wp2_with (first | (go_at_call 16; refine (no_walk _ 0 (by decide) (by decide)).mono ?_; rintro e w' ⟨rfl, rfl⟩) | (at_builtin; go_loud (refine wpList_app rfl _ _ rfl Tryd.underlying29 infoU32 rfl (hsb.pull 3) rfl (ys := [2 * (j + 1)]) rfl (hsb.rd_blk (ys := [2 * (j + 1)]) 1 1 rfl rfl (by decide)) (by rw [hol]; simp; omega) (by rw [hol]; simp; omega) ?_); intro vw' w9 hs9))
        go_roundg (I - (j + 1))
        case measure => omega
        case rel => exact ⟨j + 1, by omega, rfl, by go_num, by rw [HP.out, HO.out]; exact hs9.sel [3, 0, 2, 4, 5, 6, 7] 1⟩
      · have HA := Lib.hid (show putAt bs over j = j % 2 by unfold putAt; rw [if_neg hov])
        have hng : ¬ (0 : Int) < (over.length : Int) := by omega
        have hpl2 : j % 2 < 2 := by omega
        generalize j % 2 = z at *
        clear hov
        have hpx2 : z < 4294967296 := by have := HC.out.2.2.2; omega
        have hsa := hsr.alloc (.cells #[.int .u32 (z : Nat)] 32)
        go_wp2_with (first | (at_builtin; go_loud (refine wpList_app rfl _ _ rfl Tryd.underlying29 infoU32 rfl (hsa.pull 1) rfl (ys := [z]) rfl (hsa.rd_blk (ys := [z]) 1 1 rfl rfl (by decide)) (by rw [hpl]; simp; omega) (by rw [hpl]; simp; omega) ?_); intro vp' w7 hs7))
        have hiw := input_walk w w7 _ n _ (hs7.sel [3, 0, 2, 4, 5, 6, 7] 1) (by omega)
        rw [hinl, hini, ← hig] at hiw
        clear hsa hs7
        refine hiw.mono ?_
        rintro e w8 ⟨rfl, hs8⟩
        clear hiw
        have hsb := hs8.alloc (.cells #[.int .u32 (2 * (j + 1) : Nat)] 32)
        go_wp2_with (first | (go_at_call 16; refine (no_walk _ 0 (by decide) (by decide)).mono ?_; rintro e w' ⟨rfl, rfl⟩) | (at_builtin; go_loud (refine wpList_app rfl _ _ rfl Tryd.underlying29 infoU32 rfl (hsb.pull 3) rfl (ys := [2 * (j + 1)]) rfl (hsb.rd_blk (ys := [2 * (j + 1)]) 1 1 rfl rfl (by decide)) (by rw [hol]; simp; omega) (by rw [hol]; simp; omega) ?_); intro vw' w9 hs9))
        go_roundg (I - (j + 1))
        case measure => omega
        case rel => exact ⟨j + 1, by omega, rfl, by go_num, by rw [HP.out, HO.out, HA.out]; exact hs9.sel [3, 0, 2, 4, 5, 6, 7] 1⟩
    · obtain rfl : j = I := by omega
      have hIl2 := HC.out
      have hst0 := hsr.sel [4, 0, 1, 2, 3, 5, 6]
      have hil : (putM bs over j).length = (inputsOf hs).length := by rw [putM_len, HI.out]
      have hil2 : (ownG j).length = (inputsOf hs).length := by rw [HI.out]; simp [ownG]
      have hpi := putM_lt hbp gp0 gpx over j
      have hoi := ownG_lt j
      have hnl : (insG j).length = j + 1 := insG_len j
      have hsum : gs.length + hs.length ≤ 1073741824 := by omega
      obtain ⟨q1, q2, q3, q4, q5⟩ := layM_good gH gG hpx hpi hil hsum
      have qc : (inputsOf (layM gs hs (putM bs over j) ls).2).length ≤ 1073741824 := by have := inputsOf_length (layM gs hs (putM bs over j) ls).2; omega
      have hlaw := fun row => lays_law gH gG hpx hpi hil hsum row
      have hj2 : j ≤ 2097152 := by have := HI.out; omega
      have htext := lay_text gH oH hpx (by omega)
      rw [HI.out] at htext
      have hsum2 : (insG j).length + hs.length ≤ 1073741824 := by omega
      obtain ⟨r1, r2, r3, r4, r5⟩ := layM_good gH (insG_good j) hpx hoi hil2 hsum2
      go_wp2_with fail
      refine (Lay_walk w wr _ _ g h gs hs hst0 perm6 gG gH hsum _ _ (fun _ _ s => SL.St.rd s) hil hpi _ ls (fun _ _ s => (SL.St.pull s 4).rd) (fun _ _ s => (SL.St.pull s 5).rd) hpx (by have := HPL.out; omega)).mono ?_
      rintro e w10 ⟨vm, rfl, hs10⟩
      generalize hput : putM bs over j = put at *
      clear hput
      generalize layM gs hs put ls = q at *
      obtain ⟨ms, g2⟩ := q
      simp only at q1 q2 q3 q4 q5 qc hs10 hlaw
      have hml : ms.length ≤ 1073741824 := by have := HPL.out; omega
      go_wp2_with fail
      refine (fit_walk w w10 _ g g2 hs10.swap (by omega) _ inp (fun _ _ s => hri.use (SL.St.sel s [] 7))).mono ?_
      rintro e w11 ⟨vr, rfl, hs11⟩
      have hfl := fitM_len (inputsOf g2).length inp
      generalize fitM (inputsOf g2).length inp = row at *
      have hlw := hlaw row
      go_wp2_with fail
      refine (Eval_walk w w11 _ g g2 hs11.swap q1.wf q1.wfIn (by omega) _ row (fun _ _ s => SL.St.rd s) hfl _ ms (fun _ _ s => (SL.St.pull s 1).rd) q5 hml).mono ?_
      rintro e w12 ⟨ve, rfl, hs12⟩
      have hpb : ∀ y ∈ put, y < 2 * List.length g2 := fun y hy => by have := hpi y hy; omega
      go_wp2_with fail
      refine (Eval_walk w w12 _ g g2 hs12.swap q1.wf q1.wfIn (by omega) _ row (fun _ _ s => (SL.St.pull s 1).rd) hfl _ put (fun _ _ s => (SL.St.pull s 3).rd) hpb (by omega)).mono ?_
      rintro e w13 ⟨vw, rfl, hs13⟩
      have hel := evalM_len g2 row put
      generalize evalM g2 row put = ew at *
      go_wp2_with fail
      refine (Eval_walk w w13 _ h hs (hs13.sel [10, 0, 1, 2, 3, 4, 5, 6, 7, 8, 9]) gH.wf gH.wfIn (by omega) _ ew (fun _ _ s => SL.St.rd s) (by rw [hel]; exact hil) _ ls (fun _ _ s => (SL.St.pull s 9).rd) hpx (by have := HPL.out; omega)).mono ?_
      rintro e w14 ⟨vx, rfl, hs14⟩
      rw [hlw] at hs14
      generalize evalM g2 row ms = ev at *
      clear hlw hlaw hs10 hs11 hs12 hs13 hst0 hsr
      go_wp2_with (first | (go_at_call 16; refine (no_walk _ 0 (by decide) (by decide)).mono ?_; rintro e w' ⟨rfl, rfl⟩))
      refine (sameBools_walk w w14 _ hs14 _ _ ev ev (fun _ _ s => (SL.St.pull s 4).rd) (fun _ _ s => SL.St.rd s)).mono ?_
      rw [show decide (ev = ev) = true from by simp]
      rintro e w15 ⟨rfl, hs15⟩
      clear hs14
      go_wp2_with fail
      refine (Lay_walk w w15 _ _ n h (insG j) hs (hs15.sel [9, 8, 11, 1] 8) perm3 (insG_good j) gH hsum2 _ (ownG j) (fun _ _ s => SL.St.rd s) hil2 hoi _ ls (fun _ _ s => (SL.St.pull s 1).rd) (fun _ _ s => (SL.St.pull s 2).rd) hpx (by have := HPL.out; omega)).mono ?_
      rintro e w16 ⟨vc, rfl, hs16⟩
      clear hs15
      generalize layM (insG j) hs (ownG j) ls = q at *
      obtain ⟨cs, n2⟩ := q
      simp only at r1 r2 r3 r4 r5 htext hs16
      go_wp2_with fail
      refine (print_walk w w16 _ n n2 hs16.swap r1 (by omega) _ cs (fun _ _ s => SL.St.rd s) (fun _ _ s => uT.use (SL.St.sel s [] 4)) r5 (by have := HPL.out; omega)).mono ?_
      rintro e w17 ⟨rfl, hs17⟩
      go_wp2_with fail
      refine (print_walk w w17 _ h hs (hs17.sel [4, 0, 1, 2, 3]) gH (by omega) _ ls (fun _ _ s => (SL.St.pull s 3).rd) (fun _ _ s => uT.use (SL.St.sel s [] 4)) hpx (by have := HPL.out; omega)).mono ?_
      rintro e w18 ⟨rfl, hs18⟩
      generalize printM hs ls = tx
      go_wp2_with (first | (go_at_call 16; refine (no_walk _ 0 (by decide) (by decide)).mono ?_; rintro e w' ⟨rfl, rfl⟩))
      go_ret
      exact ⟨rfl, hs18.sel [] 5⟩
end Go.Proofs.YtjllogellpfpkaaDoor
