/- Laying the cone: the loop. -/
import Derived.Test.YtjllogellpfpkaaDoorAigL1
set_option linter.unusedVariables false
set_option linter.unusedSimpArgs false
namespace Go.Proofs.YtjllogellpfpkaaDoor
open Go Go.RowKit SL

/-- What memory holds within the loop of Lay, behind the graph and what the call that makes has laid. -/
def LayParts (kt kto km kga kco kin kg : Nat) (vg vK vin : Value) (g : Nat) (hs : Nodes) (K to : List Nat) (l : List HP) : List HP :=
  Arr (cNat .u32) 32 (.slice (some ⟨kt, 0, none⟩) hs.length hs.length) to :: Blk km (.cells #[.func (.func 50) #[] #[.pointer (some ⟨kto, 0, none⟩)]] 103 (0, 0)) ::
  Blk kto (.cells #[.slice (some ⟨kt, 0, none⟩) hs.length hs.length] 29 (0, 0)) :: Blk kga (.cells #[vg] 85 (0, 0)) :: Arr cGate 75 vg hs :: Blk kco (.cells #[vK] 23 (0, 0)) :: Arr (cNat .i64) 3 vK K ::
  Blk kin (.cells #[vin] 29 (0, 0)) :: Blk kg (.cells #[.pointer (some ⟨g, 0, none⟩)] 24 (0, 0)) :: l

set_option maxRecDepth 100000 in
set_option maxHeartbeats 4000000 in
theorem lay2_walk (w0 w : World) (l1 l : List HP) (g : Nat) (ns hs : Nodes) (ins K : List Nat) (kt kto km kga kco kin kg : Nat) (vg vK vin : Value)
    (h : SL.St w0 (Graph g ns :: (l1 ++ LayParts kt kto km kga kco kin kg vg vK vin g hs K (List.replicate hs.length 0) l)) w)
    (hri : Ent l (Rd (cNat .u32) vin ins)) (hL : Lined hs K) (hg : GoodG hs) (hp : ns.length ≠ 0) (hi : ∀ y ∈ ins, y < 2 * ns.length) (hil : ins.length = (inputsOf hs).length) (hl : ns.length + hs.length ≤ 1073741824) :
    Calls Tryd.prog 52 #[.pointer (some ⟨kco, 0, none⟩), .pointer (some ⟨kga, 0, none⟩), .pointer (some ⟨kin, 0, none⟩), .pointer (some ⟨kto, 0, none⟩), .pointer (some ⟨kg, 0, none⟩), .pointer (some ⟨km, 0, none⟩)] w fun e w' =>
      e = .returned (.int .u32 ((0 : Nat) : Int)) ∧ SL.St w0 (Graph g (layOver hs ins ns K).2 :: (l1 ++ LayParts kt kto km kga kco kin kg vg vK vin g hs K (layOver hs ins ns K).1 l)) w' := by
  have hKl := hL.length_le
  have hs0 := St.bundle h
  unfold LayParts at hs0
  have c0 : w.cell? ⟨kco, 0, none⟩ = some vK := (hs0.pull 7).cell 0
  obtain ⟨AK, cK, rfl, hmK, -⟩ := (hs0.pull 8).rd
  unfold maxLen at hmK
  go_enter Tryd.func52, Tryd.ntmps52
  go_wp2_with fail
  clear c0 h
  go_loopg [12] K.length (fun k i wr => ∃ j : Nat, j ≤ K.length ∧ k = K.length - j ∧ i = .int .i64 j ∧ SL.St w0 (Graph g (layOver hs ins ns (K.take j)).2 :: All l1 :: LayParts kt kto km kga kco kin kg vg (.slice AK K.length cK) vin g hs K (layOver hs ins ns (K.take j)).1 l) wr)
  case atStart => exact ⟨0, Nat.zero_le _, rfl, rfl, hs0⟩
  case round =>
    clear hs0
    obtain ⟨j, hj, hgk, rfl, hsr⟩ := hrel
    subst hgk
    by_cases hlt : j < K.length
    · unfold LayParts at hsr
      obtain ⟨A', c', hv, -, hc⟩ := (hsr.pull 8).rd
      obtain ⟨ad, hA', hcell⟩ := rd_at hc j hlt
      obtain rfl : AK = some ad := by
        have : A' = AK := by injection hv with h1; exact h1.symm
        rw [← this]; exact hA'
      have haf := hL.at hlt
      have hok := layOver_ok (ins := ins) hg (hL.take j) hp hi hil
      rw [show (K.take j).length = j by simp; omega] at hok
      have HT := Lib.hid (show layOver hs ins ns (K.take (j + 1)) = layStep hs ins (layOver hs ins ns (K.take j)) K[j] by rw [List.take_succ_eq_append_getElem hlt, layOver_snoc])
      clear hc hv hA'
      generalize K[j] = n at *
      generalize layOver hs ins ns (K.take j) = p at *
      obtain ⟨to, ms⟩ := p
      obtain ⟨⟨htl, htb, hmp, hmle⟩, hnm⟩ := hok
      simp only at htl htb hmp hmle hnm hsr
      obtain ⟨hn0, hnl, -, hops⟩ := haf
      have hng : hs[n]? = some hs[n] := List.getElem?_eq_getElem hnl
      obtain ⟨Ag, cg, hvg, -, hcg⟩ := (hsr.pull 6).rd
      subst hvg
      obtain ⟨adg, rfl, hcn⟩ := hcg n _ hng
      have n0 := hcn 0 _ rfl
      have n1 := hcn 1 _ rfl
      clear hcg hcn
      simp only [cGate, Nat.add_zero] at n0 n1
      rw [add_form _ _ _ (by decide)] at n1
      have hgd : nd hs n = hs[n] := by unfold nd; simp [List.getD_eq_getElem?_getD, hnl]
      have hgate := hg.gate n hnl
      have hinp := hg.ins n hnl hn0
      have higd : isGate hs n = ((nd hs n).1 != mark) := by rw [isGate_nd]; simp [hn0]
      unfold layStep at HT
      rw [hgd] at hgate hinp higd HT
      generalize hs[n] = x at *
      obtain ⟨X, Y⟩ := x
      simp only at n0 n1 hgate hinp higd
      have g0 : wr.cell? ⟨kga, 0, none⟩ = some (.slice (some adg) hs.length cg) := (hsr.pull 5).cell 0
      by_cases hX : X = mark
      · have e1 : ((X : Int) == 4294967295) = true := by simp [hX, mark]
        have hY := hinp (by rw [higd, hX]; simp)
        rw [if_pos hX] at HT
        clear hX hgate hinp higd
        go_wp2_with fail
        have hsk := SL.St.alloc hsr (.cells #[.int .u32 (X : Nat), .int .u32 (Y : Nat)] 75)
        clear g0 n0 n1 hcell
        generalize wr.heap.size = kk at hsk ⊢
        generalize (World.alloc wr _) = w5 at hsk ⊢
        have hsg := hsk.swap
        have k0 : w5.cell? ⟨kk, 0, none⟩ = some (.int .u32 (X : Nat)) := hsk.cell 0
        have k1 : w5.cell? ⟨kk, 1, none⟩ = some (.int .u32 (Y : Nat)) := hsk.cell 1
        have kto0 : w5.cell? ⟨kto, 0, none⟩ = some (.slice (some ⟨kt, 0, none⟩) hs.length hs.length) := (hsk.pull 5).cell 0
        have hvn : to[n]? = some to[n] := List.getElem?_eq_getElem (by omega)
        have kin0 : w5.cell? ⟨kin, 0, none⟩ = some vin := (hsk.pull 10).cell 0
        obtain ⟨A', c', hv, -, hc⟩ := hri.use (hsk.sel [] 12)
        subst hv
        obtain ⟨adi, rfl, hcelli⟩ := rd_at hc Y (by omega)
        have hgi : ins.getD Y 0 = ins[Y]'(by omega) := by simp [List.getD_eq_getElem?_getD, hil, hY]
        rw [hgi] at HT
        clear hc hgi
        generalize ins[Y]'(by omega) = z at *
        have rk0 := Ext.rule k0
        have rk1 := Ext.rule k1
        have rkt := Ext.rule kto0
        have rki := Ext.rule kin0
        have rkz := Ext.rule hcelli
        have HIL := Lib.hid hil; clear hil
        have hY2 : Y < ins.length := by rw [HIL.out]; exact hY
        -- region 6 of (*cadence/aig.Graph).Lay$2: 0:load 1:move 2:load 3:fieldAddr 4:load 5:indexAddr 6:load 7:indexAddr 8:store
        refine wp_region_plan (Ext w5) [(0, 1), (1, 1), (2, 1), (3, 1), (4, 1), (5, 1), (6, 1)] 7 (by kernel_rfl) (by kernel_rfl) ?_
        have hx0 : Ext w5 w5.drew := Ext.refl w5
        iterate 7 (first | (refine plan_held_skip rfl rfl (by assumption) ?_; simp only [Act.put, List.setIfInBounds_toArray, List.set_cons_zero, List.set_cons_succ]) | (refine plan_held (v := ?_) rfl rfl (fun _ hSw => ?_) (by assumption) ?_; rotate_left; (focus (go_simp; try with_reducible rfl; done)); simp only [Act.put, List.setIfInBounds_toArray, List.set_cons_zero, List.set_cons_succ]))
        refine plan_end ?_
        simp only [List.drop]
        clear rk0 rk1 rkt rki rkz hx0 k0 k1 kto0 kin0 hcelli
        have hsd := hsk.drew
        generalize w5.drew = w6 at hsd ⊢
        obtain ⟨cn0, cf0⟩ := (hsd.pull 3).arr_cell1 rfl n _ hvn _ rfl
        go_wp2_with fail
        refine NoPanic.normal ?_
        go_wp2_with fail
        go_roundg (K.length - (j + 1))
        case measure => omega
        case rel =>
          refine ⟨j + 1, by omega, rfl, by go_num, ?_⟩
          have hst := ((hsd.pull 3).arr_set1 rfl n (by omega) z _ rfl).sel [2, 3, 0, 4, 5, 6, 7, 8, 9, 10, 11] 1
          rw [HT.out]
          exact hst
      · have e1 : ((X : Int) == 4294967295) = false := by unfold mark at hX; rw [beq_eq_false_iff_ne]; omega
        obtain ⟨gA, gB, gAB, gAn, gBn⟩ := hgate (by rw [higd]; simp [hX])
        rw [if_neg hX] at HT
        clear hX hgate hinp higd
        go_wp2_with fail
        have hsk := SL.St.alloc hsr (.cells #[.int .u32 (X : Nat), .int .u32 (Y : Nat)] 75)
        clear g0 n0 n1 hcell
        generalize wr.heap.size = kk at hsk ⊢
        generalize (World.alloc wr _) = w5 at hsk ⊢
        have hsg := hsk.swap
        have k0 : w5.cell? ⟨kk, 0, none⟩ = some (.int .u32 (X : Nat)) := hsk.cell 0
        have k1 : w5.cell? ⟨kk, 1, none⟩ = some (.int .u32 (Y : Nat)) := hsk.cell 1
        have kto0 : w5.cell? ⟨kto, 0, none⟩ = some (.slice (some ⟨kt, 0, none⟩) hs.length hs.length) := (hsk.pull 5).cell 0
        have hvn : to[n]? = some to[n] := List.getElem?_eq_getElem (by omega)
        have kg0 : w5.cell? ⟨kg, 0, none⟩ = some (.pointer (some ⟨g, 0, none⟩)) := (hsk.pull 11).cell 0
        have km0 : w5.cell? ⟨km, 0, none⟩ = some (.func (.func 50) #[] #[.pointer (some ⟨kto, 0, none⟩)]) := (hsk.pull 4).cell 0
        have hvr := (hsk.pull 3).rd
        obtain ⟨R, hR, hsR⟩ : ∃ R, R = _ ∧ SL.St w0 (Graph g ms :: R) w5 := ⟨_, rfl, hsg⟩
        have rk0 : ∀ w' : World, Keep R w' → w'.cell? ⟨kk, 0, none⟩ = some (.int .u32 (X : Nat)) := fun w' ⟨_, _, h⟩ => by rw [hR] at h; exact (SL.St.drop h).cell 0
        have rk1 : ∀ w' : World, Keep R w' → w'.cell? ⟨kk, 1, none⟩ = some (.int .u32 (Y : Nat)) := fun w' ⟨_, _, h⟩ => by rw [hR] at h; exact (SL.St.drop h).cell 1
        have rkt : ∀ w' : World, Keep R w' → w'.cell? ⟨kto, 0, none⟩ = some (.slice (some ⟨kt, 0, none⟩) hs.length hs.length) := fun w' ⟨_, _, h⟩ => by rw [hR] at h; exact ((SL.St.drop h).pull 4).cell 0
        have rkg : ∀ w' : World, Keep R w' → w'.cell? ⟨kg, 0, none⟩ = some (.pointer (some ⟨g, 0, none⟩)) := fun w' ⟨_, _, h⟩ => by rw [hR] at h; exact ((SL.St.drop h).pull 10).cell 0
        have rkm : ∀ w' : World, Keep R w' → w'.cell? ⟨km, 0, none⟩ = some (.func (.func 50) #[] #[.pointer (some ⟨kto, 0, none⟩)]) := fun w' ⟨_, _, h⟩ => by rw [hR] at h; exact ((SL.St.drop h).pull 3).cell 0
        have HR := Lib.hid hR; clear hR
        have hx0 : Keep R w5.drew := ⟨_, _, hsR.drew⟩
        have tb : ∀ y ∈ to, y < 4294967296 := fun y hy => by have := htb y hy; omega
        have ha := mvL_lt (x := X) htb (by omega)
        have hb := mvL_lt (x := Y) htb (by omega)
        have hwA := lay1_walk w5.drew kto _ to kto0 hvr.drew X (by omega) (by omega) tb
        have hwB := lay1_walk w5.drew kto _ to kto0 hvr.drew Y (by omega) (by omega) tb
        clear tb gAB
        generalize mvL to X = a at *
        generalize mvL to Y = b at *
        clear hsg hsk k0 k1 kto0 kg0 km0 hvr
        -- region 7 of (*cadence/aig.Graph).Lay$2: 0:load 1:move 2:load 3:load 4:fieldAddr 5:load 6:call fn 7:load 8:fieldAddr 9:load 10:call fn 11:call fn 12:indexAddr 13:store
        refine wp_region_plan (Keep R) [(0, 1), (1, 1), (2, 1), (3, 1), (4, 1), (5, 1), (7, 1), (8, 1), (9, 1), (6, 2), (10, 2), (11, 2)] 12 (by kernel_rfl) (by kernel_rfl) ?_
        iterate 9 (first | (refine plan_held_skip rfl rfl (by assumption) ?_; simp only [Act.put, List.setIfInBounds_toArray, List.set_cons_zero, List.set_cons_succ]) | (refine plan_held (v := ?_) rfl rfl (fun _ hSw => ?_) (by assumption) ?_; rotate_left; (focus (go_simp; try with_reducible rfl; done)); simp only [Act.put, List.setIfInBounds_toArray, List.set_cons_zero, List.set_cons_succ]))
        ((refine plan_eff rfl (fun K hK => ?_)); go_simp; (refine hwA.mono ?_); (rintro e w' ⟨rfl, rfl⟩); (refine hK _ _ ⟨by assumption, ?_⟩); clear hK K)
        ((refine plan_eff rfl (fun K hK => ?_)); go_simp; (refine hwB.mono ?_); (rintro e w' ⟨rfl, rfl⟩); (refine hK _ _ ⟨by assumption, ?_⟩); clear hK K)
        ((refine plan_eff rfl (fun K hK => ?_)); go_simp; (refine (and_walk w0 _ _ g _ hsR.drew (by omega) (by omega) a b (by omega) (by omega)).mono ?_); (rintro e w7 ⟨rfl, hs7⟩); (refine hK _ _ ⟨⟨_, _, hs7⟩, ?_⟩); clear hK K)
        refine plan_end ?_
        simp only [List.drop]
        clear rk0 rk1 rkt rkg rkm hx0
        rw [HR.out] at hs7
        obtain ⟨cn0, cf0⟩ := (hs7.pull 3).arr_cell1 rfl n _ hvn _ rfl
        go_wp2_with fail
        refine NoPanic.normal ?_
        go_wp2_with fail
        go_roundg (K.length - (j + 1))
        case measure => omega
        case rel =>
          refine ⟨j + 1, by omega, rfl, by go_num, ?_⟩
          have hst := ((hs7.pull 3).arr_set1 rfl n (by omega) (andM ms a b).1 _ rfl).sel [1, 3, 0, 4, 5, 6, 7, 8, 9, 10, 11] 1
          rw [HT.out]
          exact hst
    · obtain rfl : j = K.length := by omega
      rw [List.take_length] at hsr
      go_wp2_with fail
      go_ret
      exact ⟨rfl, St.unbundle hsr⟩
end Go.Proofs.YtjllogellpfpkaaDoor
