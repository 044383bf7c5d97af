/- The law TseitinEncodes. -/
import Derived.Test.YtjeopmiopinlgaaTsAl
import Derived.Shelf.SlSortCmp.QuietGrown
import Derived.Test.YtjeopmiopinlgaaTsRw
import Derived.Test.YtjeopmiopinlgaaTsLive
import Derived.Test.YtjeopmiopinlgaaTsT
import Derived.Test.YtjeopmiopinlgaaTsU
import Derived.Test.YtjeopmiopinlgaaTsFew
/- Calls in worlds that have grown. -/
set_option linter.unusedVariables false
set_option linter.unusedSimpArgs false
namespace Go.Proofs.Ytjeopmiopinlgaa.SL
open Go Go.RowKit Go.Sort
theorem St.grow {w0 w : World} {l : List HP} (h : St w0 l w) (os : Array Obj) : St w0 l (Go.Sort.grow w os) := by
  refine ⟨h.os, h.tape, h.output, ?_, h.sat.mono fun b o e => ?_⟩
  · have := h.size; simp [Go.Sort.grow]; omega
  · have hb : b < w.heap.size := (Array.getElem?_eq_some_iff.1 e).1
    show (w.heap ++ os)[b]? = some o
    rw [Array.getElem?_append_left hb]; exact e
end Go.Proofs.Ytjeopmiopinlgaa.SL
namespace Go.Proofs.Ytjeopmiopinlgaa
open Go Go.RowKit Go.Sort SL
theorem grow_two (w : World) (A B : Obj) (q : Nat) : ((w.alloc A).alloc B).drewN q = grow (w.drewN q) #[A, B] := by
  have e : ((w.alloc A).alloc B).heap = w.heap ++ #[A, B] := by
    show (w.heap.push A).push B = _
    apply Array.ext'
    rw [Array.toList_append, Array.toList_push, Array.toList_push, List.append_assoc]; rfl
  show World.mk _ _ _ _ _ = World.mk _ _ _ _ _
  congr 1
theorem alike_g (w0 w : World) (l : List HP) (h : SL.St w0 l w) (n : Nat) (vf vg : Value) (xs : List (List Int)) (hx : Ent l (Rd2 (cInt .i64) vf xs)) (hy : Ent l (Rd2 (cInt .i64) vg xs)) (k : Nat) (os : Array Obj) :
    Calls Try.prog 15 #[.agg #[.int .i64 (n : Nat), vf], .agg #[.int .i64 (n : Nat), vg]] (grow (w.drewN k) os) fun e w' => e = .returned (.bool true) ∧ ∃ p : GrownBy, w' = grow (w.drewN p.n) p.os := by
  have AL := alike_walk w0 _ l ((h.drewN k).grow os) n n vf vg xs xs hx hy
  rw [decide_eq_true ⟨rfl, rfl⟩] at AL
  refine Calls.grown_of (AL.mono ?_)
  rintro e w' ⟨rfl, q, rfl⟩
  exact ⟨rfl, q, _, grow_two _ _ _ q⟩
theorem Rd.growQ {α : Type} {d : Cd α} {v : Value} {xs : List α} {w : World} (h : Rd d v xs w) (n : Nat) (os : Array Obj) : Rd d v xs (grow (w.drewN n) os) := h.mono fun a v e => cell_grown (block_lt_of_cell e) e n os
end Go.Proofs.Ytjeopmiopinlgaa
set_option linter.unusedVariables false
set_option linter.unusedSimpArgs false
namespace Go.Proofs.Ytjeopmiopinlgaa
open Go Go.RowKit Go.Sort SL

set_option maxRecDepth 100000 in
set_option maxHeartbeats 8000000 in
theorem encodes_walk (W : World) (vs vw vo0 : Value) (script : List Mk3) (which : List Int) (odd : List Nat) (hr : Ent [Old W] (Rd cMade3 vs script)) (hin : ∀ s ∈ script, MkIn3 s) (hw : Ent [Old W] (Rd (cInt .i64) vw which)) (hwi : ∀ i ∈ which, In64' i) (ho : Ent [Old W] (Rd (cNat .u32) vo0 odd)) (hob : ∀ y ∈ odd, y < 4294967296)
    (hsz : 4 * script.length + 1 * which.length + 1 * odd.length ≤ 1048576) :
    Calls Try.prog 3 #[vs, vw, vo0] W fun e w' => e = .returned (.bool true) ∧ SL.St W [Old W] w' := by
  have h := SL.St.start W
  have ok := madeT_ok script (by omega)
  go_enter Try.func3, Try.ntmps3
  go_wp2_with fail
  refine (made_t W W _ h vs script hr hin (by omega)).mono ?_
  rintro e w1 ⟨g, r, vo, rfl, h1⟩
  have hrl := Nat.le_of_eq (someM_length (madeT script).2 which odd)
  have hsl := ok.small; have hgd := ok.good; have hlen := ok.len; have hlits := ok.lits
  have hxb : ∀ y ∈ someM (madeT script).2 which odd, y < 4294967296 := by
    intro y hy
    rcases List.mem_append.1 hy with h1 | h1
    · obtain ⟨i, -, rfl⟩ := List.mem_map.1 h1
      have := pickM_lt (by have := ok.len; omega) ok.lits i
      omega
    · exact hob y h1
  generalize madeT script = p at *
  obtain ⟨ns, ls⟩ := p
  simp only at *
  go_wp2_with fail
  refine (live_walk W w1 _ h1).mono ?_
  rintro e w2 ⟨rfl, h2⟩
  clear h h1
  go_wp2_with fail
  refine (some_walk W w2 _ h2 vo vw vo0 ls which odd Ent.rd (Ent.tail (Ent.tail (Ent.tail hw))) (Ent.tail (Ent.tail (Ent.tail ho))) (fun y hy => by have := hlits y hy; omega) (by omega) (by omega) hwi (by omega) (by omega)).mono ?_
  rintro e w3 ⟨vr, rfl, h3⟩
  clear h2
  generalize someM ls which odd = roots at *
  have h4 : SL.St W (Graph g ns :: RGraph r (rnodes ns) (inputsOf ns).length :: Arr (cNat .u32) 42 vr roots :: [Old W]) w3 := h3.sel [2, 3, 0] 1
  clear h3
  obtain ⟨Ar, cr, hv, hmr, -⟩ := (h4.pull 2).rd
  subst hv
  have hA := (h4.alloc (.cells #[] 42)).arr_lit (d := cNat .u32) (n := 0) (xs := []) rfl rfl (by decide)
  go_wp2_with (at_builtin; go_loud (refine wpList_app rfl _ _ rfl Try.underlying24 infoU32 rfl hA rfl (ys := roots) rfl ((hA.pull 3).rd) (by simp; omega) (by simp; omega) ?_); go_loud (intro vo2 wA hB); go_loud (obtain ⟨Ax, cx, rfl, hmx, _⟩ := hB.rd))
  rw [List.nil_append] at hB
  clear hA h4
  have hC : SL.St W (Graph g ns :: RGraph r (rnodes ns) (inputsOf ns).length :: Arr (cNat .u32) 42 (.slice Ax roots.length cx) roots :: Arr (cNat .u32) 42 (.slice Ar roots.length cr) roots :: [Old W]) wA := hB.sel [1, 2, 0, 3] 0
  clear hB
  have hb3 : 3 * ns.length + roots.length ≤ 1048579 := by omega
  have B1 := encR_bounds hgd (wants := encodeW ns (coneM ns roots)) hb3
  have B2 := encR_bounds hgd (wants := polarW ns roots) hb3
  have E1 := Encode_any W wA _ g ns hC hgd (by omega) (.slice Ax roots.length cx) roots (Ent.tail Ent.rd) hxb hb3
  refine E1.mono ?_
  rintro e w4 ⟨vf1, vc1, rfl, h5⟩
  clear E1 hC
  have h6 := h5.sel [3, 0, 1, 2, 4, 5]
  clear h5
  have E2 := fun (w' : World) (l' : List HP) (h : SL.St W (RGraph r (rnodes ns) (inputsOf ns).length :: l') w') (q : Ent l' (Rd (cNat .u32) (.slice Ar roots.length cr) roots)) => rEncode_any W w' l' r _ ns h hgd (by omega) _ roots q hxb hb3
  generalize encR ns (encodeW ns (coneM ns roots)) roots = R1 at *
  obtain ⟨n1, cls1, K1, er1⟩ := R1
  simp only at B1 h6 E2
  obtain ⟨A1, c1, rfl, _⟩ := (h6.pull 1).rd2.at
  have h7 := (h6.alloc (.cells #[.int .i64 (n1 : Nat), .slice A1 cls1.length c1] 33)).sel [1, 0, 2, 3, 4, 5, 6]
  have E3 := E2 _ _ h7 (Ent.tail (Ent.tail (Ent.tail (Ent.tail (Ent.tail Ent.rd)))))
  clear E2 h6
  go_wp2_with fail
  refine E3.mono ?_
  rintro e w5 ⟨vf2, vc2, rfl, h8⟩
  clear E3 h7
  obtain ⟨A2, c2, rfl, _⟩ := h8.rd2.at
  have h8' := h8.sel [0, 1, 2, 3, 4, 5, 6, 7, 8, 9]
  have h9 : SL.St W (Blk w5.heap.size (.cells #[.int .i64 (n1 : Nat), .slice A2 cls1.length c2] 33 (0, 0)) :: Arr2 (cInt .i64) 3 60 (.slice A2 cls1.length c2) cls1 :: Arr (cNat .i64) 3 vc2 K1 :: RGraph r (rnodes ns) (inputsOf ns).length :: Blk w4.heap.size (.cells #[.int .i64 (n1 : Nat), .slice A1 cls1.length c1] 33 (0, 0)) :: Arr2 (cInt .i64) 3 60 (.slice A1 cls1.length c1) cls1 :: Arr (cNat .i64) 3 vc1 K1 :: Graph g ns :: Arr (cNat .u32) 42 (.slice Ax roots.length cx) roots :: Arr (cNat .u32) 42 (.slice Ar roots.length cr) roots :: [Old W]) _ := h8.alloc (.cells #[.int .i64 (n1 : Nat), .slice A2 cls1.length c2] 33)
  clear h8
  have nw := fun (er : Nat) (h1 : er ≤ 100) w => no_walk w (er : Int) (by omega) (by omega)
  have AL := alike_walk W _ _ h9 n1 n1 (.slice A1 cls1.length c1) (.slice A2 cls1.length c2) cls1 cls1 (Ent.tail (Ent.tail (Ent.tail (Ent.tail (Ent.tail Ent.rd2))))) (Ent.tail Ent.rd2)
  rw [decide_eq_true ⟨rfl, rfl⟩] at AL
  have f20 := h9.cell 0
  have f21 := h9.cell 1
  have f10 : World.cell? _ ⟨w4.heap.size, 0, none⟩ = some (.int .i64 (n1 : Nat)) := (h9.pull 4).cell 0
  have f11 : World.cell? _ ⟨w4.heap.size, 1, none⟩ = some (.slice A1 cls1.length c1) := (h9.pull 4).cell 1
  have f10' : w5.cell? ⟨w4.heap.size, 0, none⟩ = some (.int .i64 (n1 : Nat)) := (h8'.pull 3).cell 0
  have f11' : w5.cell? ⟨w4.heap.size, 1, none⟩ = some (.slice A1 cls1.length c1) := (h8'.pull 3).cell 1
  have d1 : ((er1 : Int) != (er1 : Int)) = false := by simp
  go_wp2_with (go_at_call 14; refine (nw _ (by omega) _).mono ?_; rintro e w' ⟨rfl, rfl⟩)
  refine AL.mono ?_
  rintro e w' ⟨rfl, q, rfl⟩
  have h10 := ((SL.St.drewN ((h9.alloc (.cells #[.int .i64 (n1 : Nat), .slice A1 cls1.length c1] 33)).alloc (.cells #[.int .i64 (n1 : Nat), .slice A2 cls1.length c2] 33)) q).drop.drop)
  generalize World.drewN _ q = w7 at h10 ⊢
  go_wp2_with fail
  have SI := sameInts_q _ _ _ K1 K1 (h10.pull 6).rd (h10.pull 2).rd
  rw [decide_eq_true rfl] at SI
  refine SI.mono ?_
  rintro e w' ⟨rfl, q2, rfl⟩
  have h11 := SL.St.drewN h10 q2
  generalize World.drewN _ q2 = w8 at h11 ⊢
  clear AL SI f20 f21 f10 f11 f10' f11' h9 h10
  go_wp2_with fail
  have hP := h11.sel [7, 8, 9, 3, 0, 4, 10] 4
  clear h11
  generalize w4.heap.size = F1 at hP ⊢
  generalize w5.heap.size = F2 at hP ⊢
  have P1 := Polar_any W w8 _ g ns hP hgd (by omega) (.slice Ax roots.length cx) roots Ent.rd hxb hb3
  have P2 := fun (w' : World) (l' : List HP) (h : SL.St W (RGraph r (rnodes ns) (inputsOf ns).length :: l') w') (q : Ent l' (Rd (cNat .u32) (.slice Ar roots.length cr) roots)) => rPolar_any W w' l' r _ ns h hgd (by omega) _ roots q hxb hb3
  generalize encR ns (polarW ns roots) roots = R2 at *
  obtain ⟨n2, cls2, K2, er2⟩ := R2
  simp only at B2 P1 P2
  refine P1.mono ?_
  rintro e w9 ⟨vp1, vd1, rfl, h12⟩
  obtain ⟨A3, c3, rfl, _⟩ := h12.rd2.at
  have h13 : SL.St W (Blk F1 (.cells #[.int .i64 (n1 : Nat), .slice A1 cls1.length c1] 33 (0, 0)) :: RGraph r (rnodes ns) (inputsOf ns).length :: Arr2 (cInt .i64) 3 60 (.slice A3 cls2.length c3) cls2 :: Arr (cNat .i64) 3 vd1 K2 :: Graph g ns :: Arr (cNat .u32) 42 (.slice Ax roots.length cx) roots :: Arr (cNat .u32) 42 (.slice Ar roots.length cr) roots :: Blk F2 (.cells #[.int .i64 (n1 : Nat), .slice A2 cls1.length c2] 33 (0, 0)) :: [Old W]) w9 := h12.sel [7, 5, 0, 1, 2, 3, 4, 6, 8]
  clear P1 hP h12
  have f0 := h13.cell 0
  have f1 := h13.cell 1
  have f2 := h13.free 0
  have f3 := h13.free 1
  have h14 := (h13.set 0 (.int .i64 (n2 : Nat))).set 1 (.slice A3 cls2.length c3)
  go_wp2_with fail
  generalize World.setCell _ _ _ = wB at h14 ⊢
  clear f0 f1 f2 f3 h13
  have h15 := h14.sel [1, 0, 2, 3, 4, 5, 6, 7, 8]
  have P3 := P2 _ _ h15 (Ent.tail (Ent.tail (Ent.tail (Ent.tail (Ent.tail Ent.rd)))))
  clear P2
  refine P3.mono ?_
  rintro e wC ⟨vp2, vd2, rfl, h16⟩
  clear P3 h14 h15
  obtain ⟨A4, c4, rfl, _⟩ := h16.rd2.at
  have h17 : SL.St W (Blk F2 (.cells #[.int .i64 (n1 : Nat), .slice A2 cls1.length c2] 33 (0, 0)) :: RGraph r (rnodes ns) (inputsOf ns).length :: Arr2 (cInt .i64) 3 60 (.slice A4 cls2.length c4) cls2 :: Arr (cNat .i64) 3 vd2 K2 :: Blk F1 (.cells #[.int .i64 (n2 : Nat), .slice A3 cls2.length c3] 33 (0, 0)) :: Arr2 (cInt .i64) 3 60 (.slice A3 cls2.length c3) cls2 :: Arr (cNat .i64) 3 vd1 K2 :: Graph g ns :: Arr (cNat .u32) 42 (.slice Ax roots.length cx) roots :: Arr (cNat .u32) 42 (.slice Ar roots.length cr) roots :: [Old W]) wC := h16.sel [9, 2, 0, 1, 3, 4, 5, 6, 7, 8, 10]
  clear h16
  have f0 := h17.cell 0
  have f1 := h17.cell 1
  have f2 := h17.free 0
  have f3 := h17.free 1
  have h18 := (h17.set 0 (.int .i64 (n2 : Nat))).set 1 (.slice A4 cls2.length c4)
  go_wp2_with fail
  generalize World.setCell _ _ _ = wD at h18 ⊢
  clear f0 f1 f2 f3 h17
  have N1 := Encode_nil W wD _ h18 (.slice Ax roots.length cx) roots (Ent.tail (Ent.tail (Ent.tail (Ent.tail (Ent.tail (Ent.tail (Ent.tail (Ent.tail Ent.rd))))))))
  refine N1.mono ?_
  rintro e wE ⟨rfl, h19⟩
  clear N1 h18
  have h20 := h19.alloc (.cells #[.int .i64 0, .slice none 0 0] 33)
  have N2 := Polar_nil W _ _ h20.drop (.slice Ax roots.length cx) roots (Ent.tail (Ent.tail (Ent.tail (Ent.tail (Ent.tail (Ent.tail (Ent.tail (Ent.tail Ent.rd))))))))
  clear h19
  go_wp2_with fail
  refine N2.mono ?_
  rintro e wF ⟨rfl, h21⟩
  clear N2 h20
  have h22 := (h21.alloc (.cells #[.int .i64 0, .slice none 0 0] 33)).drop
  go_wp2_with fail
  generalize World.alloc wF _ = wG at h22 ⊢
  clear h21
  go_loopg [25] roots.length (fun k i wr => ∃ j q : Nat, j ≤ roots.length ∧ k = roots.length - j ∧ i = .int .i64 j ∧ wr = wG.drewN q)
  case atStart => exact ⟨0, 0, Nat.zero_le _, rfl, rfl, rfl⟩
  case round =>
    obtain ⟨j, q, hj, hgk, rfl, hwr⟩ := hrel
    subst hgk
    have hsr := SL.St.drewN h22 q
    rw [← hwr] at hsr
    have HWR := Lib.hid hwr
    clear hwr h22
    by_cases hlt : j < roots.length
    · obtain ⟨A', c', hv, -, hc⟩ := (hsr.pull 8).rd
      obtain ⟨ad, hA', hcell⟩ := rd_at hc j hlt
      obtain rfl : Ax = some ad := by
        have : A' = Ax := by injection hv with h1; exact h1.symm
        rw [← this]; exact hA'
      clear hc hv hA'
      obtain ⟨A', c', hv, -, hc⟩ := (hsr.pull 9).rd
      obtain ⟨bd, hA', hcell2⟩ := rd_at hc j hlt
      obtain rfl : Ar = some bd := by
        have : A' = Ar := by injection hv with h1; exact h1.symm
        rw [← this]; exact hA'
      clear hc hv hA'
      generalize roots[j] = x at hcell hcell2
      have dx : ((x : Int) != (x : Int)) = false := by simp
      go_wp2_with fail
      go_quiet (fail)
      go_wp2_with fail
      go_roundg (roots.length - (j + 1))
      case measure => omega
      case rel => exact ⟨j + 1, _, by omega, rfl, by go_num, by rw [HWR.out]; exact World.drewN_drewN _ _ _⟩
    · obtain rfl : j = roots.length := by omega
      have f10 : wr.cell? ⟨F1, 0, none⟩ = some (.int .i64 (n2 : Nat)) := (hsr.pull 4).cell 0
      have f11 : wr.cell? ⟨F1, 1, none⟩ = some (.slice A3 cls2.length c3) := (hsr.pull 4).cell 1
      have f20 : wr.cell? ⟨F2, 0, none⟩ = some (.int .i64 (n2 : Nat)) := hsr.cell 0
      have f21 : wr.cell? ⟨F2, 1, none⟩ = some (.slice A4 cls2.length c4) := hsr.cell 1
      obtain ⟨Ag, cg, g0, -⟩ := rg_slice (hsr.pull 1)
      have F10 := fun n os => cell_grown (block_lt_of_cell f10) f10 n os
      have F11 := fun n os => cell_grown (block_lt_of_cell f11) f11 n os
      have F20 := fun n os => cell_grown (block_lt_of_cell f20) f20 n os
      have F21 := fun n os => cell_grown (block_lt_of_cell f21) f21 n os
      have G0 := fun n os => cell_grown (block_lt_of_cell g0) g0 n os
      have AL := alike_g W wr _ hsr n2 (.slice A3 cls2.length c3) (.slice A4 cls2.length c4) cls2 (Ent.tail (Ent.tail (Ent.tail (Ent.tail (Ent.tail Ent.rd2))))) (Ent.tail (Ent.tail Ent.rd2))
      have SI : ∀ n os, Calls Try.prog 16 #[vd1, vd2] (grow (wr.drewN n) os) fun e w' => e = .returned (.bool true) ∧ ∃ p : GrownBy, w' = grow (wr.drewN p.n) p.os := fun n os => by
        have h1 := sameInts_q _ _ _ K2 K2 (Rd.growQ (hsr.pull 6).rd n os) (Rd.growQ (hsr.pull 3).rd n os)
        rw [decide_eq_true rfl] at h1
        refine Calls.grown_of (h1.mono ?_)
        rintro e w' ⟨rfl, m, rfl⟩
        exact ⟨rfl, m, #[], by rw [grow_empty]⟩
      have NO : ∀ (er : Int), 0 ≤ er → er ≤ 100 → ∀ n os, Calls Try.prog 14 #[.int .i64 er] (grow (wr.drewN n) os) fun e w' => e = .returned (.int .i64 er) ∧ ∃ p : GrownBy, w' = grow (wr.drewN p.n) p.os := fun er q1 q2 n os => by
        refine Calls.grown_of ((no_walk _ er (by omega) (by omega)).mono ?_)
        rintro e w' ⟨rfl, rfl⟩
        exact ⟨rfl, 0, #[], by rw [grow_empty]; rfl⟩
      have ND : ∀ n os, Calls Try.prog 19 #[.pointer (some ⟨g, 0, none⟩)] (grow (wr.drewN n) os) fun e w' => e = .returned (.int .i64 (ns.length : Nat)) ∧ ∃ p : GrownBy, w' = grow (wr.drewN p.n) p.os := fun n os => by
        have h1 := Nodes_walk W _ _ g ns (((hsr.drewN n).grow os).pull 7)
        refine Calls.grown_of (h1.mono ?_)
        rintro e w' ⟨rfl, rfl⟩
        exact ⟨rfl, 0, #[], by rw [grow_empty]; rfl⟩
      have d3 : ((er2 : Int) == (er2 : Int)) = true := by simp
      have d4 : (((ns.length : Nat) : Int) == ((ns.length : Nat) : Int)) = true := by simp
      clear f10 f11 f20 f21 g0
      go_wp2_with fail
      have hmo : Try.prog.follows .mixedOrders = true := by kernel_rfl
      go_quiet_grown ((first | (go_at_call 14; exact NO _ (by omega) (by omega) _ _) | (go_at_call 15; exact AL _ _) | (go_at_call 16; exact SI _ _) | (go_at_call 19; exact ND _ _)))
      go_wp2_with fail
      go_ret
      exact ⟨rfl, (SL.St.grow (SL.St.drewN hsr nq) osq).sel [10] 10⟩
end Go.Proofs.Ytjeopmiopinlgaa
