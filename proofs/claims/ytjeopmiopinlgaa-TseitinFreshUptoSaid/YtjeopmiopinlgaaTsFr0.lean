/- Toward TseitinFresh: short clauses, rows read as numbers below zero too, a row taken out of a formula. -/
import Derived.Test.YtjeopmiopinlgaaTsS
import Derived.Test.YtjeopmiopinlgaaTsG
import Derived.Test.YtjeopmiopinlgaaTsRv
import Derived.Test.YtjeopmiopinlgaaTsL
import Derived.Test.YtjeopmiopinlgaaTsLi
import Derived.Shelf.SlSortCmp.QuietGrown
/- Are two formulas alike? -/
set_option linter.unusedVariables false
set_option linter.unusedSimpArgs false
namespace Go.Proofs.Ytjeopmiopinlgaa
open Go Go.RowKit SL

set_option maxRecDepth 100000 in
set_option maxHeartbeats 4000000 in
theorem alike_walk (w0 w : World) (l : List HP) (h : SL.St w0 l w) (n m : Nat) (vf vg : Value) (xs ys : List (List Int)) (hx : Ent l (Rd2 (cInt .i64) vf xs)) (hy : Ent l (Rd2 (cInt .i64) vg ys)) :
    Calls Try.prog 15 #[.agg #[.int .i64 (n : Nat), vf], .agg #[.int .i64 (m : Nat), vg]] w fun e w' => e = .returned (.bool (decide (n = m ∧ xs = ys))) ∧ ∃ q, w' = ((w.alloc (.cells #[.int .i64 (n : Nat), vf] 33)).alloc (.cells #[.int .i64 (m : Nat), vg] 33)).drewN q := by
  obtain ⟨A, c, rfl, hm1, -⟩ := (hx.use h).at
  obtain ⟨B, d, rfl, hm2, -⟩ := (hy.use h).at
  unfold maxLen at hm1 hm2
  have h2 := (h.alloc (.cells #[.int .i64 (n : Nat), .slice A xs.length c] 33)).alloc (.cells #[.int .i64 (m : Nat), .slice B ys.length d] 33)
  simp only [World.size_alloc] at h2
  by_cases hnm : n = m
  · have e1 : ((n : Int) != (m : Int)) = false := by simp [hnm]
    have HNM := Lib.hid hnm; clear hnm
    by_cases hlen : xs.length = ys.length
    · have hne : ((xs.length : Int) != (ys.length : Int)) = false := by simp [hlen]
      have HLEN := Lib.hid hlen; clear hlen
      go_enter Try.func15, Try.ntmps15
      go_wp2_with fail
      clear hne e1
      have HW2 := Lib.hid (show (w.alloc (.cells #[.int .i64 (n : Nat), .slice A xs.length c] 33)).alloc (.cells #[.int .i64 (m : Nat), .slice B ys.length d] 33) = _ from rfl)
      generalize hw2 : (w.alloc (.cells #[.int .i64 (n : Nat), .slice A xs.length c] 33)).alloc (.cells #[.int .i64 (m : Nat), .slice B ys.length d] 33) = w2 at h2 HW2 ⊢
      have HEQ := Lib.hid hw2; clear hw2 HW2
      generalize hp1 : w.heap.size = p1 at h2 ⊢
      clear hp1
      have f1 : w2.cell? ⟨p1, 1, none⟩ = some (.slice A xs.length c) := (h2.pull 1).cell 1
      have f2 : w2.cell? ⟨p1 + 1, 1, none⟩ = some (.slice B ys.length d) := h2.cell 1
      have hx2 := hx.use h2.drop.drop
      have hy2 := hy.use h2.drop.drop
      clear h2 h
      go_loopg [5] xs.length (fun k i wr => ∃ j q : Nat, j ≤ xs.length ∧ k = xs.length - j ∧ i = .int .i64 j ∧ xs.take j = ys.take j ∧ wr = w2.drewN q)
      case atStart => exact ⟨0, 0, Nat.zero_le _, rfl, rfl, rfl, rfl⟩
      case round =>
        obtain ⟨j, q, hj, hgk, rfl, hT, hwr⟩ := hrel
        subst hgk
        have g1 : wr.cell? ⟨p1, 1, none⟩ = some (.slice A xs.length c) := by rw [hwr]; exact f1
        have g2 : wr.cell? ⟨p1 + 1, 1, none⟩ = some (.slice B ys.length d) := by rw [hwr]; exact f2
        by_cases hlt : j < xs.length
        · have hlt2 : j < ys.length := by rw [← HLEN.out]; exact hlt
          obtain ⟨A1, c1, e1, -, hP⟩ := hx2.at
          obtain ⟨ad, B1, n1, cc1, hA1, hc1, hr1⟩ := hP j _ (List.getElem?_eq_getElem hlt)
          obtain rfl : A = some ad := by rw [← hA1]; injection e1
          obtain ⟨A2, c2, e2, -, hE⟩ := hy2.at
          obtain ⟨bd, B2, n2, cc2, hA2, hc2, hr2⟩ := hE j _ (List.getElem?_eq_getElem hlt2)
          obtain rfl : B = some bd := by rw [← hA2]; injection e2
          clear hP hE e1 e2 hA1 hA2
          have hc1' : wr.cell? (ad.add j) = some (.slice B1 n1 cc1) := by rw [hwr]; exact hc1
          have hc2' : wr.cell? (bd.add j) = some (.slice B2 n2 cc2) := by rw [hwr]; exact hc2
          have hr1' := Rd.drewQ hr1 q
          have hr2' := Rd.drewQ hr2 q
          rw [← hwr] at hr1' hr2'
          have sq := fun n => same_q (wr.drewN n) _ _ _ _ (Rd.drewQ hr1' n) (Rd.drewQ hr2' n)
          clear hr1 hr2 hr1' hr2' hc1 hc2
          have HWR := Lib.hid hwr; clear hwr
          have HX := Lib.hid (show xs.take (j + 1) = xs.take j ++ [xs[j]] from List.take_succ_eq_append_getElem hlt)
          have HY := Lib.hid (show ys.take (j + 1) = ys.take j ++ [ys[j]'hlt2] from List.take_succ_eq_append_getElem hlt2)
          have HN := Lib.hid (show xs = ys → xs[j] = ys[j]'hlt2 from fun e => by subst e; rfl)
          have HT := Lib.hid hT
          clear hT
          generalize hxj : xs[j] = x at *
          generalize hyj : ys[j]'hlt2 = y at *
          clear hxj hyj
          by_cases hxy : x = y
          · have hd : decide (x = y) = true := decide_eq_true hxy
            have HE := Lib.hid hxy; clear hxy
            generalize decide (x = y) = b at *
            subst hd
            go_wp2_with fail
            go_quiet ((go_at_call 25; exact Calls.quiet_of (sq _)))
            go_wp2_with fail
            go_roundg (xs.length - (j + 1))
            case measure => omega
            case rel => exact ⟨j + 1, _, by omega, rfl, by go_num, by rw [HX.out, HY.out, HT.out, HE.out], by rw [HWR.out]; exact World.drewN_drewN _ _ _⟩
          · have HD := Lib.hid (show decide (n = m ∧ xs = ys) = false from decide_eq_false fun e => hxy (HN.out e.2))
            have hd : decide (x = y) = false := decide_eq_false hxy
            clear hxy
            generalize decide (x = y) = b at *
            subst hd
            go_wp2_with fail
            go_quiet ((go_at_call 25; exact Calls.quiet_of (sq _)))
            go_wp2_with fail
            go_ret
            rw [HEQ.out]
            exact ⟨by rw [HD.out]; rfl, _, by rw [HWR.out]; exact World.drewN_drewN _ _ _⟩
        · obtain rfl : j = xs.length := by omega
          rw [List.take_length] at hT
          have HD := Lib.hid (show decide (n = m ∧ xs = ys) = true from decide_eq_true ⟨HNM.out, by rw [hT, List.take_of_length_le (by rw [HLEN.out]; exact Nat.le_refl _)]⟩)
          clear hT
          have HWR := Lib.hid hwr; clear hwr
          go_wp2_with fail
          go_ret
          rw [HEQ.out]
          exact ⟨by rw [HD.out]; rfl, _, HWR.out⟩
    · have hne : ((xs.length : Int) != (ys.length : Int)) = true := by simp; omega
      have HD := Lib.hid (show decide (n = m ∧ xs = ys) = false from decide_eq_false fun e => hlen (by rw [e.2])); clear hlen
      go_enter Try.func15, Try.ntmps15
      go_wp2_with fail
      go_ret
      exact ⟨by rw [HD.out]; rfl, 0, rfl⟩
  · have e1 : ((n : Int) != (m : Int)) = true := by simp; omega
    have HD := Lib.hid (show decide (n = m ∧ xs = ys) = false from decide_eq_false fun e => hnm e.1); clear hnm
    go_enter Try.func15, Try.ntmps15
    go_wp2_with fail
    go_ret
    exact ⟨by rw [HD.out]; rfl, 0, rfl⟩
end Go.Proofs.Ytjeopmiopinlgaa
/- Encode and Polar, whatever is asked. -/
set_option linter.unusedVariables false
set_option linter.unusedSimpArgs false
namespace Go.Proofs.Ytjeopmiopinlgaa
open Go Go.RowKit SL

open Classical in
noncomputable def encR (ns : Nodes) (wants roots : List Nat) : Nat × List (List Int) × List Nat × Nat :=
  if Good ns roots then ((coneM ns roots).length, clausesM ns wants roots, coneM ns roots, 0) else (0, [], [], 100)
theorem enc_bounds {ns : Nodes} (hgd : GoodG ns) {wants roots : List Nat} (hb : 3 * ns.length + roots.length ≤ 1048579) : (clausesM ns wants roots).length ≤ 1048576 ∧ (coneM ns roots).length ≤ 1048576 := by
  have h1 := coneM_length ns roots hgd.pos
  have h2 := clausesM_length ns wants roots
  omega
theorem encR_bounds {ns : Nodes} (hgd : GoodG ns) {wants roots : List Nat} (hb : 3 * ns.length + roots.length ≤ 1048579) : (encR ns wants roots).1 ≤ 1048576 ∧ (encR ns wants roots).2.1.length ≤ 1048576 ∧ (encR ns wants roots).2.2.1.length ≤ 1048576 ∧ (encR ns wants roots).2.2.2 ≤ 100 := by
  have h := enc_bounds hgd (wants := wants) hb
  unfold encR
  split
  · exact ⟨h.2, h.1, h.2, Nat.zero_le _⟩
  · exact ⟨by decide, by decide, by decide, by decide⟩
theorem Encode_any (w0 w : World) (l : List HP) (g : Nat) (ns : Nodes) (h : SL.St w0 (Graph g ns :: l) w) (hgd : GoodG ns) (hl : ns.length ≤ 1048577) (v : Value) (roots : List Nat) (hr : Ent l (Rd (cNat .u32) v roots)) (hxb : ∀ y ∈ roots, y < 4294967296) (hb : 3 * ns.length + roots.length ≤ 1048579) :
    Calls Try.prog 12 #[.pointer (some ⟨g, 0, none⟩), v] w fun e w' => ∃ vf vc, e = .returned (.tuple #[.agg #[.int .i64 ((encR ns (encodeW ns (coneM ns roots)) roots).1 : Nat), vf], vc, .int .i64 ((encR ns (encodeW ns (coneM ns roots)) roots).2.2.2 : Nat)]) ∧
      SL.St w0 (Arr2 (cInt .i64) 3 60 vf (encR ns (encodeW ns (coneM ns roots)) roots).2.1 :: Arr (cNat .i64) 3 vc (encR ns (encodeW ns (coneM ns roots)) roots).2.2.1 :: Graph g ns :: l) w' := by
  have hbd := enc_bounds hgd (wants := (encodeW ns (coneM ns roots))) hb
  unfold encR
  by_cases hx : Good ns roots
  · rw [if_pos hx]; exact Encode_walk w0 w l g ns h hgd.wf hl v roots hr hx hbd.1 hbd.2
  · rw [if_neg hx]
    refine (Encode_bad w0 w l g ns h hl v roots hr hxb hx).mono ?_
    rintro e w' ⟨rfl, h2⟩
    exact ⟨_, _, rfl, SL.St.nil2 (h2.rows_nil (cNat .i64) 3) (cInt .i64) 3 60⟩
theorem rEncode_any (w0 w : World) (l : List HP) (g N : Nat) (ns : Nodes) (h : SL.St w0 (RGraph g (rnodes ns) N :: l) w) (hgd : GoodG ns) (hl : ns.length ≤ 1048577) (v : Value) (roots : List Nat) (hr : Ent l (Rd (cNat .u32) v roots)) (hxb : ∀ y ∈ roots, y < 4294967296) (hb : 3 * ns.length + roots.length ≤ 1048579) :
    Calls Try.prog 13 #[.pointer (some ⟨g, 0, none⟩), v] w fun e w' => ∃ vf vc, e = .returned (.tuple #[.agg #[.int .i64 ((encR ns (encodeW ns (coneM ns roots)) roots).1 : Nat), vf], vc, .int .i64 ((encR ns (encodeW ns (coneM ns roots)) roots).2.2.2 : Nat)]) ∧
      SL.St w0 (Arr2 (cInt .i64) 3 60 vf (encR ns (encodeW ns (coneM ns roots)) roots).2.1 :: Arr (cNat .i64) 3 vc (encR ns (encodeW ns (coneM ns roots)) roots).2.2.1 :: RGraph g (rnodes ns) N :: l) w' := by
  have hbd := enc_bounds hgd (wants := (encodeW ns (coneM ns roots))) hb
  unfold encR
  by_cases hx : Good ns roots
  · rw [if_pos hx]; exact rEncode_walk w0 w l g N ns h hgd.wf hl v roots hr hx hbd.1 hbd.2
  · rw [if_neg hx]
    refine (rEncode_bad w0 w l g N ns h v roots hr hxb hx).mono ?_
    rintro e w' ⟨rfl, h2⟩
    exact ⟨_, _, rfl, SL.St.nil2 (h2.rows_nil (cNat .i64) 3) (cInt .i64) 3 60⟩
theorem Polar_any (w0 w : World) (l : List HP) (g : Nat) (ns : Nodes) (h : SL.St w0 (Graph g ns :: l) w) (hgd : GoodG ns) (hl : ns.length ≤ 1048577) (v : Value) (roots : List Nat) (hr : Ent l (Rd (cNat .u32) v roots)) (hxb : ∀ y ∈ roots, y < 4294967296) (hb : 3 * ns.length + roots.length ≤ 1048579) :
    Calls Try.prog 17 #[.pointer (some ⟨g, 0, none⟩), v] w fun e w' => ∃ vf vc, e = .returned (.tuple #[.agg #[.int .i64 ((encR ns (polarW ns roots) roots).1 : Nat), vf], vc, .int .i64 ((encR ns (polarW ns roots) roots).2.2.2 : Nat)]) ∧
      SL.St w0 (Arr2 (cInt .i64) 3 60 vf (encR ns (polarW ns roots) roots).2.1 :: Arr (cNat .i64) 3 vc (encR ns (polarW ns roots) roots).2.2.1 :: Graph g ns :: l) w' := by
  have hbd := enc_bounds hgd (wants := (polarW ns roots)) hb
  unfold encR
  by_cases hx : Good ns roots
  · rw [if_pos hx]; exact Polar_walk w0 w l g ns h hgd.wf hl v roots hr hx hbd.1 hbd.2
  · rw [if_neg hx]
    refine (Polar_bad w0 w l g ns h hl v roots hr hxb hx).mono ?_
    rintro e w' ⟨rfl, h2⟩
    exact ⟨_, _, rfl, SL.St.nil2 (h2.rows_nil (cNat .i64) 3) (cInt .i64) 3 60⟩
theorem rPolar_any (w0 w : World) (l : List HP) (g N : Nat) (ns : Nodes) (h : SL.St w0 (RGraph g (rnodes ns) N :: l) w) (hgd : GoodG ns) (hl : ns.length ≤ 1048577) (v : Value) (roots : List Nat) (hr : Ent l (Rd (cNat .u32) v roots)) (hxb : ∀ y ∈ roots, y < 4294967296) (hb : 3 * ns.length + roots.length ≤ 1048579) :
    Calls Try.prog 18 #[.pointer (some ⟨g, 0, none⟩), v] w fun e w' => ∃ vf vc, e = .returned (.tuple #[.agg #[.int .i64 ((encR ns (polarW ns roots) roots).1 : Nat), vf], vc, .int .i64 ((encR ns (polarW ns roots) roots).2.2.2 : Nat)]) ∧
      SL.St w0 (Arr2 (cInt .i64) 3 60 vf (encR ns (polarW ns roots) roots).2.1 :: Arr (cNat .i64) 3 vc (encR ns (polarW ns roots) roots).2.2.1 :: RGraph g (rnodes ns) N :: l) w' := by
  have hbd := enc_bounds hgd (wants := (polarW ns roots)) hb
  unfold encR
  by_cases hx : Good ns roots
  · rw [if_pos hx]; exact rPolar_walk w0 w l g N ns h hgd.wf hl v roots hr hx hbd.1 hbd.2
  · rw [if_neg hx]
    refine (rPolar_bad w0 w l g N ns h v roots hr hxb hx).mono ?_
    rintro e w' ⟨rfl, h2⟩
    exact ⟨_, _, rfl, SL.St.nil2 (h2.rows_nil (cNat .i64) 3) (cInt .i64) 3 60⟩
end Go.Proofs.Ytjeopmiopinlgaa
/- Calls in worlds that have grown. -/
set_option linter.unusedVariables false
set_option linter.unusedSimpArgs false
namespace Go.Proofs.Ytjeopmiopinlgaa.SL
open Go Go.RowKit Go.Sort
theorem St.grow {w0 w : World} {l : List HP} (h : St w0 l w) (os : Array Obj) : St w0 l (Go.Sort.grow w os) := by
  refine ⟨h.os, h.tape, h.output, ?_, h.sat.mono fun b o e => ?_⟩
  · have := h.size; simp [Go.Sort.grow]; omega
  · have hb : b < w.heap.size := (Array.getElem?_eq_some_iff.1 e).1
    show (w.heap ++ os)[b]? = some o
    rw [Array.getElem?_append_left hb]; exact e
end Go.Proofs.Ytjeopmiopinlgaa.SL
namespace Go.Proofs.Ytjeopmiopinlgaa
open Go Go.RowKit Go.Sort SL
theorem grow_two (w : World) (A B : Obj) (q : Nat) : ((w.alloc A).alloc B).drewN q = grow (w.drewN q) #[A, B] := by
  have e : ((w.alloc A).alloc B).heap = w.heap ++ #[A, B] := by
    show (w.heap.push A).push B = _
    apply Array.ext'
    rw [Array.toList_append, Array.toList_push, Array.toList_push, List.append_assoc]; rfl
  show World.mk _ _ _ _ _ = World.mk _ _ _ _ _
  congr 1
theorem alike_g (w0 w : World) (l : List HP) (h : SL.St w0 l w) (n : Nat) (vf vg : Value) (xs : List (List Int)) (hx : Ent l (Rd2 (cInt .i64) vf xs)) (hy : Ent l (Rd2 (cInt .i64) vg xs)) (k : Nat) (os : Array Obj) :
    Calls Try.prog 15 #[.agg #[.int .i64 (n : Nat), vf], .agg #[.int .i64 (n : Nat), vg]] (grow (w.drewN k) os) fun e w' => e = .returned (.bool true) ∧ ∃ p : GrownBy, w' = grow (w.drewN p.n) p.os := by
  have AL := alike_walk w0 _ l ((h.drewN k).grow os) n n vf vg xs xs hx hy
  rw [decide_eq_true ⟨rfl, rfl⟩] at AL
  refine Calls.grown_of (AL.mono ?_)
  rintro e w' ⟨rfl, q, rfl⟩
  exact ⟨rfl, q, _, grow_two _ _ _ q⟩
theorem Rd.growQ {α : Type} {d : Cd α} {v : Value} {xs : List α} {w : World} (h : Rd d v xs w) (n : Nat) (os : Array Obj) : Rd d v xs (grow (w.drewN n) os) := h.mono fun a v e => cell_grown (block_lt_of_cell e) e n os
end Go.Proofs.Ytjeopmiopinlgaa
set_option linter.unusedVariables false
set_option linter.unusedSimpArgs false
namespace Go.Proofs.Ytjeopmiopinlgaa
open Go Go.RowKit SL

theorem clausesM_short (ns : Nodes) (wants roots : List Nat) : ∀ c ∈ clausesM ns wants roots, c.length ≤ 3 := by
  intro c hc
  rcases List.mem_append.1 hc with h | h
  · obtain ⟨n, -, hn⟩ := List.mem_flatMap.1 h
    unfold gateCl at hn
    split at hn
    · rcases List.mem_append.1 hn with h | h
      · split at h
        · simp at h; rcases h with rfl | rfl <;> simp
        · simp at h
      · split at h
        · simp at h; subst h; simp
        · simp at h
    · simp at hn
  · obtain ⟨r, -, hn⟩ := List.mem_flatMap.1 h
    unfold rootCl at hn
    split at hn
    · simp at hn; subst hn; simp
    · split at hn
      · simp at hn
      · simp at hn; subst hn; simp
theorem encR_short (ns : Nodes) (wants roots : List Nat) : ∀ c ∈ (encR ns wants roots).2.1, c.length ≤ 3 := by
  unfold encR
  split
  · exact clausesM_short ns wants roots
  · intro c hc; simp at hc
theorem arr_nat_int {k : IntKind} {e : TypeId} {v : Value} {xs : List Nat} : Arr (cNat k) e v xs = Arr (cInt k) e v (xs.map Int.ofNat) := by
  unfold Arr
  rw [List.length_map]
  have : (cNat k).all xs = (cInt k).all (xs.map Int.ofNat) := by
    unfold Cd.all
    rw [List.flatMap_map]
    rfl
  rw [this]
  rfl
/-- One row taken out of a formula. -/
theorem St.rowOut {w0 w : World} {l : List HP} {v : Value} {F n : Nat} {cls : List (List Int)} {ss : List Slc} (hl : ss.length = cls.length) {j : Nat} (hj : j < cls.length)
    (h : SL.St w0 (Arr cSlc 60 v ss :: Blk F (.cells #[.int .i64 (n : Nat), v] 33 (0, 0)) :: (Inn (cInt .i64) 3 ss cls ++ l)) w) :
    ∃ (s : Slc) (k : List HP), ss[j]? = some s ∧ SL.St w0 (Arr (cInt .i64) 3 s.val cls[j] :: Arr cSlc 60 v ss :: Blk F (.cells #[.int .i64 (n : Nat), v] 33 (0, 0)) :: (k ++ l)) w ∧
      ∀ (w' : World) (v' : Value) (s' : Slc) (x : List Int), SL.St w0 (Arr (cInt .i64) 3 s'.val x :: Arr cSlc 60 v' (ss.set j s') :: Blk F (.cells #[.int .i64 (n : Nat), v'] 33 (0, 0)) :: (k ++ l)) w' →
        SL.St w0 (Arr cSlc 60 v' (ss.set j s') :: Blk F (.cells #[.int .i64 (n : Nat), v'] 33 (0, 0)) :: (Inn (cInt .i64) 3 (ss.set j s') (cls.set j x) ++ l)) w' := by
  have hs : ss[j]? = some (ss[j]'(by omega)) := List.getElem?_eq_getElem (by omega)
  obtain ⟨l1, l2, e1, e2⟩ := Inn.split (cInt .i64) 3 ss cls j _ _ hl hs (List.getElem?_eq_getElem hj)
  have p : ∀ (A B C : HP), (B :: C :: ((l1 ++ A :: l2) ++ l)).Perm (A :: B :: C :: ((l1 ++ l2) ++ l)) := fun A B C => by
    have q : ((l1 ++ A :: l2) ++ l).Perm (A :: ((l1 ++ l2) ++ l)) := List.Perm.append_right l List.perm_middle
    refine ((q.cons C).cons B).trans ?_
    exact ((List.Perm.swap A C _).cons B).trans (List.Perm.swap A B _)
  refine ⟨_, l1 ++ l2, hs, ?_, fun w' v' s' x h' => ?_⟩
  · rw [e1] at h
    exact h.perm (p _ _ _)
  · rw [e2 s' x]
    exact h'.perm (p _ _ _).symm
end Go.Proofs.Ytjeopmiopinlgaa
