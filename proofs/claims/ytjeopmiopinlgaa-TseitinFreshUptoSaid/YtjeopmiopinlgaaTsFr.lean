/- The law TseitinFresh. -/
import Derived.Test.YtjeopmiopinlgaaTsFr0
import Derived.Test.YtjeopmiopinlgaaTsLive
import Derived.Test.YtjeopmiopinlgaaTsT
import Derived.Test.YtjeopmiopinlgaaTsU
import Derived.Test.YtjeopmiopinlgaaTsFew
set_option linter.unusedVariables false
set_option linter.unusedSimpArgs false
namespace Go.Proofs.Ytjeopmiopinlgaa
open Go Go.RowKit SL

theorem set_self {α : Type} {l : List α} {j : Nat} {s : α} (h : l[j]? = some s) : l.set j s = l := by
  obtain ⟨h1, rfl⟩ := List.getElem?_eq_some_iff.1 h
  exact List.set_getElem_self h1
/-- The parts but the first stay. -/
def Keep (rest : List HP) (w : World) : Prop := ∃ w0 P, SL.St w0 (P :: rest) w
theorem St.formShut0 {w0 w : World} {l : List HP} {F n : Nat} {cls : List (List Int)} {ss : List Slc} {v : Value} (hsl : ss.length = cls.length)
    (h : SL.St w0 (Arr cSlc 60 v ss :: Blk F (.cells #[.int .i64 (n : Nat), v] 33 (0, 0)) :: (Inn (cInt .i64) 3 ss cls ++ l)) w) : SL.St w0 (Form F n cls :: l) w :=
  St.mkForm (vf := v) ((SL.St.mk2 hsl (SL.St.perm (List.Perm.cons _ List.perm_middle.symm) h)).swap)

set_option maxRecDepth 100000 in
set_option maxHeartbeats 16000000 in
theorem tfresh_walk (W : World) (vs vw : Value) (script : List Mk3) (which : List Int) (hr : Ent [Old W] (Rd cMade3 vs script)) (hin : ∀ s ∈ script, MkIn3 s) (hw : Ent [Old W] (Rd (cInt .i64) vw which)) (hwi : ∀ i ∈ which, In64' i) (hsz : 4 * script.length + 1 * which.length ≤ 1048576) :
    Calls Try.prog 6 #[vs, vw] W fun e w' => e = .returned (.bool true) ∧ SL.St W [Old W] w' := by
  have h := SL.St.start W
  have ok := madeT_ok script (by omega)
  go_enter Try.func6, Try.ntmps6
  go_wp2_with fail
  refine (made_t W W _ h vs script hr hin (by omega)).mono ?_
  rintro e w1 ⟨g, r, vo, rfl, h1⟩
  have hro := someM_lt ok which
  have hrl := Nat.le_of_eq (someM_length (madeT script).2 which [])
  have hsl := ok.small; have hgd := ok.good; have hlen := ok.len; have hlits := ok.lits
  generalize madeT script = p at *
  obtain ⟨ns, ls⟩ := p
  simp only at *
  rw [List.length_nil, Nat.add_zero] at hrl
  go_wp2_with fail
  refine (live_walk W w1 _ h1).mono ?_
  rintro e w2 ⟨rfl, h2⟩
  clear h h1
  go_wp2_with fail
  refine (some_walk W w2 _ h2 vo vw (.slice none 0 0) ls which [] Ent.rd (Ent.tail (Ent.tail (Ent.tail hw))) (fun _ _ _ => rd_nil) (fun y hy => by have := hlits y hy; omega) (by omega) (by omega) hwi (by omega) (by simp)).mono ?_
  rintro e w3 ⟨vr, rfl, h3⟩
  clear h2
  generalize someM ls which [] = roots at *
  have hxb : ∀ y ∈ roots, y < 4294967296 := fun y hy => by have := hro y hy; omega
  have hb3 : 3 * ns.length + roots.length ≤ 1048579 := by omega
  have h4 : SL.St W (Graph g ns :: RGraph r (rnodes ns) (inputsOf ns).length :: Arr (cNat .u32) 42 vr roots :: [Old W]) w3 := h3.sel [2, 3, 0] 1
  clear h3 hro
  have B1 := encR_bounds hgd (wants := encodeW ns (coneM ns roots)) hb3
  have B2 := encR_bounds hgd (wants := polarW ns roots) hb3
  have S1 := encR_short ns (encodeW ns (coneM ns roots)) roots
  have S2 := encR_short ns (polarW ns roots) roots
  have E1 := fun (w' : World) (l' : List HP) (h : SL.St W (Graph g ns :: l') w') (q : Ent l' (Rd (cNat .u32) vr roots)) => Encode_any W w' l' g ns h hgd (by omega) vr roots q hxb hb3
  have E2 := fun (w' : World) (l' : List HP) (h : SL.St W (RGraph r (rnodes ns) (inputsOf ns).length :: l') w') (q : Ent l' (Rd (cNat .u32) vr roots)) => rEncode_any W w' l' r _ ns h hgd (by omega) vr roots q hxb hb3
  have P1 := fun (w' : World) (l' : List HP) (h : SL.St W (Graph g ns :: l') w') (q : Ent l' (Rd (cNat .u32) vr roots)) => Polar_any W w' l' g ns h hgd (by omega) vr roots q hxb hb3
  generalize encR ns (encodeW ns (coneM ns roots)) roots = R1 at *
  generalize encR ns (polarW ns roots) roots = R2 at *
  obtain ⟨n1, cls1, K1, er1⟩ := R1
  obtain ⟨n2, cls2, K2, er2⟩ := R2
  simp only at B1 B2 S1 S2 E1 E2 P1
  have HE1 := Lib.hid E1; have HE2 := Lib.hid E2; have HP1 := Lib.hid P1; have HS1 := Lib.hid S1; have HS2 := Lib.hid S2
  clear E1 E2 P1 S1 S2
  go_wp2_with fail
  refine (HE1.out _ _ h4 (Ent.tail Ent.rd)).mono ?_
  rintro e w4 ⟨vf1, vc1, rfl, h5⟩
  obtain ⟨A1, c1, rfl, _⟩ := h5.rd2.at
  have h6 : SL.St W (Graph g ns :: Blk w4.heap.size (.cells #[.int .i64 (n1 : Nat), .slice A1 cls1.length c1] 33 (0, 0)) :: Arr2 (cInt .i64) 3 60 (.slice A1 cls1.length c1) cls1 :: Arr (cNat .i64) 3 vc1 K1 :: RGraph r (rnodes ns) (inputsOf ns).length :: Arr (cNat .u32) 42 vr roots :: [Old W]) _ := (h5.alloc (.cells #[.int .i64 (n1 : Nat), .slice A1 cls1.length c1] 33)).sel [3, 0, 1, 2, 4, 5, 6]
  clear h4 h5
  go_wp2_with fail
  refine (HE1.out _ _ h6 (Ent.tail (Ent.tail (Ent.tail (Ent.tail Ent.rd))))).mono ?_
  rintro e w5 ⟨vf2, vc2, rfl, h7⟩
  obtain ⟨A2, c2, rfl, _⟩ := h7.rd2.at
  have h8 : SL.St W (Graph g ns :: Blk w5.heap.size (.cells #[.int .i64 (n1 : Nat), .slice A2 cls1.length c2] 33 (0, 0)) :: Arr2 (cInt .i64) 3 60 (.slice A2 cls1.length c2) cls1 :: Arr (cNat .i64) 3 vc2 K1 :: Blk w4.heap.size (.cells #[.int .i64 (n1 : Nat), .slice A1 cls1.length c1] 33 (0, 0)) :: Arr2 (cInt .i64) 3 60 (.slice A1 cls1.length c1) cls1 :: Arr (cNat .i64) 3 vc1 K1 :: RGraph r (rnodes ns) (inputsOf ns).length :: Arr (cNat .u32) 42 vr roots :: [Old W]) _ := (h7.alloc (.cells #[.int .i64 (n1 : Nat), .slice A2 cls1.length c2] 33)).sel [3, 0, 1, 2, 4, 5, 6, 7, 8, 9]
  clear h6 h7
  go_wp2_with fail
  refine (HP1.out _ _ h8 (Ent.tail (Ent.tail (Ent.tail (Ent.tail (Ent.tail (Ent.tail (Ent.tail Ent.rd)))))))).mono ?_
  rintro e w6 ⟨vf3, vd, rfl, h9⟩
  obtain ⟨A3, c3, rfl, _⟩ := h9.rd2.at
  have h10 := (h9.alloc (.cells #[.int .i64 (n2 : Nat), .slice A3 cls2.length c3] 33)).sel [10, 0, 1, 2, 3, 4, 5, 6, 7, 8, 9, 11, 12]
  clear h8 h9
  go_wp2_with fail
  refine (HE2.out _ _ h10 (Ent.tail (Ent.tail (Ent.tail (Ent.tail (Ent.tail (Ent.tail (Ent.tail (Ent.tail (Ent.tail (Ent.tail Ent.rd))))))))))).mono ?_
  rintro e w7 ⟨vf4, vc4, rfl, h11⟩
  obtain ⟨A4, c4, rfl, _⟩ := h11.rd2.at
  have h12 : SL.St W (Arr (cNat .i64) 3 vc1 K1 :: Blk w4.heap.size (.cells #[.int .i64 (n1 : Nat), .slice A1 cls1.length c1] 33 (0, 0)) :: Arr2 (cInt .i64) 3 60 (.slice A1 cls1.length c1) cls1 :: Blk w6.heap.size (.cells #[.int .i64 (n2 : Nat), .slice A3 cls2.length c3] 33 (0, 0)) :: Arr2 (cInt .i64) 3 60 (.slice A3 cls2.length c3) cls2 :: Blk w5.heap.size (.cells #[.int .i64 (n1 : Nat), .slice A2 cls1.length c2] 33 (0, 0)) :: Arr2 (cInt .i64) 3 60 (.slice A2 cls1.length c2) cls1 :: Arr (cNat .i64) 3 vc2 K1 :: Blk w7.heap.size (.cells #[.int .i64 (n1 : Nat), .slice A4 cls1.length c4] 33 (0, 0)) :: Arr2 (cInt .i64) 3 60 (.slice A4 cls1.length c4) cls1 :: Arr (cNat .i64) 3 vc4 K1 :: Graph g ns :: Arr (cNat .u32) 42 vr roots :: [Old W]) _ :=
    (h11.alloc (.cells #[.int .i64 (n1 : Nat), .slice A4 cls1.length c4] 33)).sel [13, 11, 12, 4, 5, 8, 9, 10, 0, 1, 2, 7, 14, 15] 2
  clear h10 h11
  obtain ⟨Ac, cc, rfl, hmc, -⟩ := h12.rd
  go_wp2_with fail
  rw [arr_nat_int] at h12
  have hml : (K1.map Int.ofNat).length = K1.length := List.length_map _
  generalize K1.map Int.ofNat = M0 at h12 hml
  generalize hF1 : w4.heap.size = F1 at *
  generalize hF2 : w5.heap.size = F2 at *
  generalize hF3 : w6.heap.size = F3 at *
  generalize hF4 : w7.heap.size = F4 at *
  generalize World.alloc w7 _ = w8 at h12 ⊢
  clear hF1 hF2 hF3 hF4
  obtain ⟨L, hL⟩ : ∃ L : List HP, L = (Blk F1 (.cells #[.int .i64 (n1 : Nat), .slice A1 cls1.length c1] 33 (0, 0)) :: Arr2 (cInt .i64) 3 60 (.slice A1 cls1.length c1) cls1 :: Blk F3 (.cells #[.int .i64 (n2 : Nat), .slice A3 cls2.length c3] 33 (0, 0)) :: Arr2 (cInt .i64) 3 60 (.slice A3 cls2.length c3) cls2 :: Blk F2 (.cells #[.int .i64 (n1 : Nat), .slice A2 cls1.length c2] 33 (0, 0)) :: Arr2 (cInt .i64) 3 60 (.slice A2 cls1.length c2) cls1 :: Arr (cNat .i64) 3 vc2 K1 :: Blk F4 (.cells #[.int .i64 (n1 : Nat), .slice A4 cls1.length c4] 33 (0, 0)) :: Arr2 (cInt .i64) 3 60 (.slice A4 cls1.length c4) cls1 :: Arr (cNat .i64) 3 vc4 K1 :: Graph g ns :: Arr (cNat .u32) 42 vr roots :: [Old W]) := ⟨_, rfl⟩
  rw [← hL] at h12
  have HL := Lib.hid hL; clear hL
  have HML := Lib.hid hml; clear hml
  go_loopg [22] K1.length (fun k i wr => ∃ (j : Nat) (M : List Int), j ≤ K1.length ∧ k = K1.length - j ∧ i = .int .i64 j ∧ M.length = K1.length ∧ SL.St W (Arr (cInt .i64) 3 (.slice Ac K1.length cc) M :: L) wr)
  case atStart => exact ⟨0, M0, Nat.zero_le _, rfl, rfl, HML.out, h12⟩
  case round =>
    clear h12
    obtain ⟨j, M, hj, hgk, rfl, hMl, hsr⟩ := hrel
    subst hgk
    have HMl := Lib.hid hMl; clear hMl
    by_cases hlt : j < K1.length
    · obtain ⟨gc, c', hv⟩ := hsr.arr_form (by rw [HMl.out]; omega)
      obtain rfl : Ac = some ⟨gc, 0, none⟩ := by injection hv
      clear hv
      obtain ⟨c0, c1'⟩ := hsr.arr_cell1 rfl j _ (List.getElem?_eq_getElem (by rw [HMl.out]; exact hlt)) _ rfl
      have hset := hsr.arr_set1 rfl j (by rw [HMl.out]; exact hlt) (-7) _ rfl
      go_wp2_with fail
      go_roundg (K1.length - (j + 1))
      case measure => omega
      case rel => exact ⟨j + 1, _, by omega, rfl, by go_num, by rw [List.length_set]; exact HMl.out, hset⟩
    · obtain rfl : j = K1.length := by omega
      have h13 := hsr.drop
      rw [HL.out] at h13
      clear hsr HL
      go_wp2_with fail
      have h14 := St.mkForm h13
      clear h13
      obtain ⟨L, h15, hL⟩ : ∃ L : List HP, SL.St W (Form F1 n1 cls1 :: L) wr ∧ L = _ := ⟨_, h14, rfl⟩
      clear h14
      have HL2 := Lib.hid hL; clear hL
      go_loopg [23] cls1.length (fun k i wr => ∃ (j : Nat) (cs : List (List Int)), j ≤ cls1.length ∧ k = cls1.length - j ∧ i = .int .i64 j ∧ cs.length = cls1.length ∧ (∀ i < cls1.length, j ≤ i → (cs.getD i []).length ≤ 3) ∧ SL.St W (Form F1 n1 cs :: L) wr)
      case atStart => exact ⟨0, cls1, Nat.zero_le _, rfl, rfl, rfl, fun i hi _ => HS1.out _ (by rw [List.getD_eq_getElem?_getD, List.getElem?_eq_getElem hi]; exact List.getElem_mem hi), h15⟩
      case round =>
        clear h15
        obtain ⟨j, cs, hj, hgk, rfl, hcl, hsh, hsr⟩ := hrel
        subst hgk
        have HSH := Lib.hid hsh; clear hsh
        obtain ⟨ss, Af, cf, hsl, h16⟩ := St.formOpen hsr
        rw [hcl] at h16
        have f1 : World.cell? _ ⟨F1, 1, none⟩ = some (.slice Af cls1.length cf) := (h16.pull 1).cell 1
        have HCL := Lib.hid hcl
        have HSL := Lib.hid hsl
        by_cases hlt : j < cls1.length
        · obtain ⟨s, k, hs, h17, back⟩ := St.rowOut hsl (show j < cs.length by omega) h16
          have hx3 := HSH.out j hlt (Nat.le_refl _)
          rw [List.getD_eq_getElem?_getD, List.getElem?_eq_getElem (show j < cs.length by omega), Option.getD_some] at hx3
          generalize cs[j] = X at h17 hx3
          have BK := Lib.hid back; clear back h16 hsr
          obtain ⟨ga, ca, hv⟩ := (h17.pull 1).arr_form (show 0 < ss.length by omega)
          obtain rfl : Af = some ⟨ga, 0, none⟩ := by injection hv
          clear hv hcl hsl
          obtain ⟨B, ln, cc⟩ := s
          obtain ⟨B', c', hv, hxm, -⟩ := h17.rd
          obtain ⟨rfl, rfl, rfl⟩ : B = B' ∧ ln = X.length ∧ cc = c' := by
            unfold Slc.val at hv; injection hv with e1 e2 e3; exact ⟨e1, e2, e3⟩
          clear hv
          go_wp2_with fail
          go_loopg [24] X.length (fun k' i wi => ∃ (i' : Nat) (M : List Int), i' ≤ X.length ∧ k' = X.length - i' ∧ i = .int .i64 i' ∧ M.length = X.length ∧ SL.St W (Arr (cInt .i64) 3 (.slice B X.length cc) M :: Arr cSlc 60 (.slice (some ⟨ga, 0, none⟩) cls1.length cf) ss :: Blk F1 (.cells #[.int .i64 (n1 : Nat), .slice (some ⟨ga, 0, none⟩) cls1.length cf] 33 (0, 0)) :: (k ++ L)) wi)
          case atStart => exact ⟨0, X, Nat.zero_le _, rfl, rfl, rfl, h17⟩
          case round =>
            clear h17 f1
            obtain ⟨i, M, hi, hgk, rfl, hMl, hsr⟩ := hrel
            subst hgk
            have hrs : World.cell? _ ⟨ga, j, none⟩ = some (.slice B X.length cc) := ((hsr.pull 1).arr_cell1 rfl j _ hs _ rfl).1
            have f1 : World.cell? _ ⟨F1, 1, none⟩ = some (.slice (some ⟨ga, 0, none⟩) cls1.length cf) := (hsr.pull 2).cell 1
            have HMl := Lib.hid hMl
            have hM3 : M.length ≤ 3 := by omega
            clear hMl
            by_cases hlt2 : i < X.length
            · obtain ⟨gb, cb, hv⟩ := hsr.arr_form (by rw [HMl.out]; omega)
              obtain rfl : B = some ⟨gb, 0, none⟩ := by injection hv
              clear hv
              obtain ⟨c0, c1'⟩ := hsr.arr_cell1 rfl i _ (List.getElem?_eq_getElem (by rw [HMl.out]; exact hlt2)) _ rfl
              have hset := hsr.arr_set1 rfl i (by rw [HMl.out]; exact hlt2) 99 _ rfl
              go_wp2_with fail
              go_roundg (X.length - (i + 1))
              case measure => omega
              case rel => exact ⟨i + 1, _, by omega, rfl, by go_num, by rw [List.length_set]; exact HMl.out, hset⟩
            · obtain rfl : i = X.length := by omega
              go_wp2_with fail
              obtain ⟨R, hR, hsR⟩ : ∃ R, R = _ ∧ SL.St W (Arr (cInt .i64) 3 (.slice B X.length cc) M :: R) _ := ⟨_, rfl, hsr⟩
              have rkF : ∀ w' : World, Keep R w' → w'.cell? ⟨F1, 1, none⟩ = some (.slice (some ⟨ga, 0, none⟩) cls1.length cf) := fun w' ⟨_, _, h⟩ => by rw [hR] at h; exact ((SL.St.drop h).pull 1).cell 1
              have rkS : ∀ w' : World, Keep R w' → w'.cell? ⟨ga, j, none⟩ = some (.slice B X.length cc) := fun w' ⟨_, _, h⟩ => by rw [hR] at h; exact ((SL.St.drop h).arr_cell1 rfl j _ hs _ rfl).1
              have HR := Lib.hid hR; clear hR
              have hx0 : Keep R _ := ⟨_, _, hsR.drew⟩
              have hb := hsR.drew.alloc (.cells #[.int .i64 98] 3)
              clear f1 hrs hsr
              -- region 20 of cadence/cadencelaw12.TseitinFresh: 0:fieldAddr 1:load 2:move 3:fieldAddr 4:load 5:move 6:indexAddr 7:load 8:buildSlice 9:call append 10:indexAddr 11:store
              refine wp_region_plan (Keep R) [(0, 0), (1, 1), (2, 1), (3, 1), (4, 1), (5, 1), (6, 1), (7, 1), (8, 2), (9, 2)] 10 (by kernel_rfl) (by kernel_rfl) ?_
              iterate 1 (first | (refine plan_skip rfl rfl ?_; simp only [Act.put, List.setIfInBounds_toArray, List.set_cons_zero, List.set_cons_succ]) | (refine plan_pure (v := ?_) rfl rfl (fun _ => ?_) ?_; rotate_left; (focus (go_simp; try with_reducible rfl; done)); simp only [Act.put, List.setIfInBounds_toArray, List.set_cons_zero, List.set_cons_succ]))
              iterate 7 (first | (refine plan_held_skip rfl rfl (by assumption) ?_; simp only [Act.put, List.setIfInBounds_toArray, List.set_cons_zero, List.set_cons_succ]) | (refine plan_held (v := ?_) rfl rfl (fun _ hSw => ?_) (by assumption) ?_; rotate_left; (focus (go_simp; try with_reducible rfl; done)); simp only [Act.put, List.setIfInBounds_toArray, List.set_cons_zero, List.set_cons_succ]))
              ((refine plan_eff rfl (fun K hK => ?_)); go_simp; (refine hK _ _ ⟨⟨_, _, hb.drop⟩, ?_⟩); clear hK K)
              ((refine plan_eff rfl (fun K hK => ?_)); (refine step_app rfl _ _ rfl Try.underlying60 infoInt rfl (hb.pull 1) rfl (ys := ([98] : List Int)) rfl (hb.rd_blk (d := cInt .i64) (ys := ([98] : List Int)) 1 1 rfl rfl (by decide)) (by simp; omega) (by simp; omega) ?_); (intro vo' w7 h7); (obtain ⟨An', cn', rfl, _, _⟩ := h7.rd); (refine hK _ _ ⟨⟨_, _, h7.swap.drop⟩, ?_⟩); clear hK K)
              refine plan_end ?_
              simp only [List.drop]
              clear rkF rkS hx0 hb hsR
              rw [HR.out] at h7
              obtain ⟨g2, g3⟩ := (h7.pull 2).arr_cell1 rfl j _ hs _ rfl
              have h8 := (h7.pull 2).arr_set1 rfl j (by rw [HSL.out, HCL.out]; exact hlt) ((An', (M ++ [98]).length, cn') : Slc) _ rfl
              have h8s : SL.St W (Arr (cInt .i64) 3 (.slice An' (M ++ [98]).length cn') (M ++ [98]) :: Arr cSlc 60 (.slice (some ⟨ga, 0, none⟩) cls1.length cf) (ss.set j ((An', (M ++ [98]).length, cn') : Slc)) :: Blk F1 (.cells #[.int .i64 (n1 : Nat), .slice (some ⟨ga, 0, none⟩) cls1.length cf] 33 (0, 0)) :: (k ++ L)) _ := h8.sel [1, 0, 3] 1
              have h9 := St.formShut0 (by rw [List.length_set, List.length_set]; exact HSL.out) (BK.out _ _ ((An', List.length (α := Int) (M ++ [98]), cn') : Slc) (M ++ [98]) h8s)
              clear h7 h8
              go_wp2_with fail
              refine NoPanic.normal ?_
              go_wp2_with fail
              simp only [Slc.val, List.length_append, List.length_singleton] at h9
              generalize World.setCell w7 _ _ = w8 at h9 ⊢
              go_roundg (cls1.length - (j + 1))
              case measure => omega
              case rel => exact ⟨j + 1, cs.set j (M ++ [98]), by omega, rfl, by go_num, by rw [List.length_set]; exact HCL.out, fun i hi hij => by rw [List.getD_eq_getElem?_getD, List.getElem?_set_ne (by omega), ← List.getD_eq_getElem?_getD]; exact HSH.out i hi (by omega), h9⟩
        · obtain rfl : j = cls1.length := by omega
          have h20 := hsr.drop
          rw [HL2.out] at h20
          clear h16 hsr hsl HSL HCL HSH hcl HL2
          go_wp2_with fail
          clear f1
          have h21 := St.mkForm h20
          obtain ⟨L3, h22, hL3⟩ : ∃ L3 : List HP, SL.St W (Form F3 n2 cls2 :: L3) _ ∧ L3 = _ := ⟨_, h21, rfl⟩
          clear h20 h21
          have HL3 := Lib.hid hL3; clear hL3
          go_loopg [25] cls2.length (fun k i ws => ∃ (j : Nat) (cs : List (List Int)), j ≤ cls2.length ∧ k = cls2.length - j ∧ i = .int .i64 j ∧ cs.length = cls2.length ∧ (∀ i < cls2.length, j ≤ i → (cs.getD i []).length ≤ 3) ∧ SL.St W (Form F3 n2 cs :: L3) ws)
          case atStart => exact ⟨0, cls2, Nat.zero_le _, rfl, rfl, rfl, fun i hi _ => HS2.out _ (by rw [List.getD_eq_getElem?_getD, List.getElem?_eq_getElem hi]; exact List.getElem_mem hi), h22⟩
          case round =>
            clear h22
            obtain ⟨j, cs, hj, hgk, rfl, hcl, hsh, hsr⟩ := hrel
            subst hgk
            have HSH := Lib.hid hsh; clear hsh
            obtain ⟨ss, Af, cf, hsl, h16⟩ := St.formOpen hsr
            rw [hcl] at h16
            have f1 : World.cell? _ ⟨F3, 1, none⟩ = some (.slice Af cls2.length cf) := (h16.pull 1).cell 1
            have HCL := Lib.hid hcl
            have HSL := Lib.hid hsl
            by_cases hlt : j < cls2.length
            · obtain ⟨s, k, hs, h17, back⟩ := St.rowOut hsl (show j < cs.length by omega) h16
              have hx3 := HSH.out j hlt (Nat.le_refl _)
              rw [List.getD_eq_getElem?_getD, List.getElem?_eq_getElem (show j < cs.length by omega), Option.getD_some] at hx3
              generalize cs[j] = X at h17 hx3
              have BK := Lib.hid back; clear back h16 hsr
              obtain ⟨ga, ca, hv⟩ := (h17.pull 1).arr_form (show 0 < ss.length by omega)
              obtain rfl : Af = some ⟨ga, 0, none⟩ := by injection hv
              clear hv hcl hsl
              obtain ⟨B, ln, cc⟩ := s
              obtain ⟨B', c', hv, hxm, -⟩ := h17.rd
              obtain ⟨rfl, rfl, rfl⟩ : B = B' ∧ ln = X.length ∧ cc = c' := by
                unfold Slc.val at hv; injection hv with e1 e2 e3; exact ⟨e1, e2, e3⟩
              clear hv
              go_wp2_with fail
              go_loopg [26] X.length (fun k' i wi => ∃ (i' : Nat) (M : List Int), i' ≤ X.length ∧ k' = X.length - i' ∧ i = .int .i64 i' ∧ M.length = X.length ∧ SL.St W (Arr (cInt .i64) 3 (.slice B X.length cc) M :: Arr cSlc 60 (.slice (some ⟨ga, 0, none⟩) cls2.length cf) ss :: Blk F3 (.cells #[.int .i64 (n2 : Nat), .slice (some ⟨ga, 0, none⟩) cls2.length cf] 33 (0, 0)) :: (k ++ L3)) wi)
              case atStart => exact ⟨0, X, Nat.zero_le _, rfl, rfl, rfl, h17⟩
              case round =>
                clear h17 f1
                obtain ⟨i, M, hi, hgk, rfl, hMl, hsr⟩ := hrel
                subst hgk
                have hrs : World.cell? _ ⟨ga, j, none⟩ = some (.slice B X.length cc) := ((hsr.pull 1).arr_cell1 rfl j _ hs _ rfl).1
                have f1 : World.cell? _ ⟨F3, 1, none⟩ = some (.slice (some ⟨ga, 0, none⟩) cls2.length cf) := (hsr.pull 2).cell 1
                have HMl := Lib.hid hMl
                have hM3 : M.length ≤ 3 := by omega
                clear hMl
                by_cases hlt2 : i < X.length
                · obtain ⟨gb, cb, hv⟩ := hsr.arr_form (by rw [HMl.out]; omega)
                  obtain rfl : B = some ⟨gb, 0, none⟩ := by injection hv
                  clear hv
                  obtain ⟨c0, c1'⟩ := hsr.arr_cell1 rfl i _ (List.getElem?_eq_getElem (by rw [HMl.out]; exact hlt2)) _ rfl
                  have hset := hsr.arr_set1 rfl i (by rw [HMl.out]; exact hlt2) 97 _ rfl
                  go_wp2_with fail
                  go_roundg (X.length - (i + 1))
                  case measure => omega
                  case rel => exact ⟨i + 1, _, by omega, rfl, by go_num, by rw [List.length_set]; exact HMl.out, hset⟩
                · obtain rfl : i = X.length := by omega
                  go_wp2_with fail
                  have h9 := St.formShut0 (by rw [List.length_set, List.length_set]; exact HSL.out) (BK.out _ _ ((B, X.length, cc) : Slc) M (by rw [set_self hs]; exact hsr))
                  go_roundg (cls2.length - (j + 1))
                  case measure => omega
                  case rel => exact ⟨j + 1, cs.set j M, by omega, rfl, by go_num, by rw [List.length_set]; exact HCL.out, fun i hi hij => by rw [List.getD_eq_getElem?_getD, List.getElem?_set_ne (by omega), ← List.getD_eq_getElem?_getD]; exact HSH.out i hi (by omega), h9⟩
            · obtain rfl : j = cls2.length := by omega
              have h23 := hsr.drop
              rw [HL3.out] at h23
              clear h16 hsr hsl HSL HCL HSH hcl HL3
              have h24 := h23.sel [6, 0, 1, 2, 3, 4, 5, 7, 8]
              clear h23
              go_wp2_with fail
              clear f1
              refine (HE1.out _ _ h24 (Ent.tail (Ent.tail (Ent.tail (Ent.tail (Ent.tail (Ent.tail Ent.rd))))))).mono ?_
              rintro e w10 ⟨vf5, vc5, rfl, h25⟩
              obtain ⟨A5, c5, rfl, _⟩ := h25.rd2.at
              have h26 := h25.alloc (.cells #[.int .i64 (n1 : Nat), .slice A5 cls1.length c5] 33)
              clear h24 h25
              have nw := fun (er : Nat) (h1 : er ≤ 100) w => no_walk w (er : Int) (by omega) (by omega)
              have AL := alike_walk W _ _ h26 n1 n1 (.slice A2 cls1.length c2) (.slice A4 cls1.length c4) cls1 cls1 (Ent.tail (Ent.tail (Ent.tail (Ent.tail (Ent.tail Ent.rd2))))) (Ent.tail (Ent.tail (Ent.tail (Ent.tail (Ent.tail (Ent.tail (Ent.tail (Ent.tail Ent.rd2))))))))
              rw [decide_eq_true ⟨rfl, rfl⟩] at AL
              have f20 : World.cell? _ ⟨F2, 0, none⟩ = some (.int .i64 (n1 : Nat)) := (h26.pull 4).cell 0
              have f21 : World.cell? _ ⟨F2, 1, none⟩ = some (.slice A2 cls1.length c2) := (h26.pull 4).cell 1
              have f40 : World.cell? _ ⟨F4, 0, none⟩ = some (.int .i64 (n1 : Nat)) := (h26.pull 7).cell 0
              have f41 : World.cell? _ ⟨F4, 1, none⟩ = some (.slice A4 cls1.length c4) := (h26.pull 7).cell 1
              have d1 : ((er1 : Int) == (er1 : Int)) = true := by simp
              go_wp2_with (go_at_call 14; refine (nw _ (by omega) _).mono ?_; rintro e w' ⟨rfl, rfl⟩)
              refine AL.mono ?_
              rintro e w' ⟨rfl, q, rfl⟩
              have h27 := ((SL.St.drewN ((h26.alloc (.cells #[.int .i64 (n1 : Nat), .slice A2 cls1.length c2] 33)).alloc (.cells #[.int .i64 (n1 : Nat), .slice A4 cls1.length c4] 33)) q).drop.drop)
              generalize World.drewN _ q = w11 at h27 ⊢
              clear AL f20 f21 f40 f41 h26
              generalize w10.heap.size = F5 at h27 ⊢
              have AL := alike_walk W _ _ h27 n1 n1 (.slice A5 cls1.length c5) (.slice A4 cls1.length c4) cls1 cls1 (Ent.tail Ent.rd2) (Ent.tail (Ent.tail (Ent.tail (Ent.tail (Ent.tail (Ent.tail (Ent.tail (Ent.tail Ent.rd2))))))))
              rw [decide_eq_true ⟨rfl, rfl⟩] at AL
              have f50 : World.cell? _ ⟨F5, 0, none⟩ = some (.int .i64 (n1 : Nat)) := h27.cell 0
              have f51 : World.cell? _ ⟨F5, 1, none⟩ = some (.slice A5 cls1.length c5) := h27.cell 1
              have f40 : World.cell? _ ⟨F4, 0, none⟩ = some (.int .i64 (n1 : Nat)) := (h27.pull 7).cell 0
              have f41 : World.cell? _ ⟨F4, 1, none⟩ = some (.slice A4 cls1.length c4) := (h27.pull 7).cell 1
              go_wp2_with fail
              refine AL.mono ?_
              rintro e w' ⟨rfl, q2, rfl⟩
              have h28 := ((SL.St.drewN ((h27.alloc (.cells #[.int .i64 (n1 : Nat), .slice A5 cls1.length c5] 33)).alloc (.cells #[.int .i64 (n1 : Nat), .slice A4 cls1.length c4] 33)) q2).drop.drop)
              generalize World.drewN _ q2 = w12 at h28 ⊢
              clear AL f50 f51 f40 f41 h27
              go_wp2_with fail
              have SI := sameInts_q _ _ _ K1 K1 (h28.pull 6).rd (h28.pull 9).rd
              rw [decide_eq_true rfl] at SI
              refine SI.mono ?_
              rintro e w' ⟨rfl, q3, rfl⟩
              have h29 := SL.St.drewN h28 q3
              generalize World.drewN _ q3 = w13 at h29 ⊢
              go_wp2_with fail
              go_ret
              exact ⟨rfl, h29.sel [11] 11⟩
end Go.Proofs.Ytjeopmiopinlgaa
