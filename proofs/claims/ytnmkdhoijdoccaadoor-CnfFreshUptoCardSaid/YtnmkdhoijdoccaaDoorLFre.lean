/- The law CnfFresh. -/
import Derived.Test.YtnmkdhoijdoccaaDoorLChk
import Derived.Test.YtnmkdhoijdoccaaDoorCnEp
import Derived.Test.YtnmkdhoijdoccaaDoorCnTi
import Derived.Test.YtnmkdhoijdoccaaDoorCnRs
import Derived.Test.YtnmkdhoijdoccaaDoorCnFr0
import Derived.Test.YtnmkdhoijdoccaaDoorCnFr1
import Derived.Test.YtnmkdhoijdoccaaDoorCnWh
set_option linter.unusedVariables false
set_option linter.unusedSimpArgs false
namespace Go.Proofs.YtnmkdhoijdoccaaDoor
open Go Go.RowKit SL

set_option maxRecDepth 100000 in
set_option maxHeartbeats 4000000 in
theorem fresh_law (W : World) (htab : Tab W) (n : Int) (vf : Value) (cls : List (List Int)) (va : Value) (a : List Int) (vb : Value) (b : List Int) (v li : Int) (hn : I64 n) (hr : Ent [Old W] (Rd2 (cInt .i64) vf cls)) (hI : ∀ c ∈ cls, ∀ x ∈ c, I64 x)
    (ha : Ent [Old W] (Rd (cInt .i64) va a)) (hIa : ∀ x ∈ a, I64 x) (hb : Ent [Old W] (Rd (cInt .i64) vb b)) (hIb : ∀ x ∈ b, I64 x) (hvI : I64 v) (hlI : I64 li) (hsz : (cls.map fun c => c.length + 1).sum + a.length + b.length ≤ 1048576) :
    Calls Tryd.prog 8 #[.agg #[.int .i64 n, vf], va, vb, .int .i64 v, .int .i64 li] W fun e w' => e = .returned (.bool true) ∧ SL.St W [Old W] w' := by
  obtain ⟨hs1, hs2⟩ := sum_bounds (show (cls.map fun c => c.length + 1).sum ≤ 1048576 by omega)
  have hla : a.length ≤ 1048576 := by omega
  have hlb : b.length ≤ 1048576 := by omega
  clear hsz
  obtain ⟨A, c, rfl, -, -⟩ := (hr.use (SL.St.start W)).at
  have h1 := (SL.St.start W).alloc (.cells #[.int .i64 n, .slice A cls.length c] 24)
  have uT : Ent [Old W] Tab := SL.tab_old htab
  have hE : Ent [Old W] (fun _ => True) := fun _ _ _ => trivial
  go_enter Tryd.func8, Tryd.ntmps8
  go_wp2_with fail
  refine (live_walk W _ _ h1).mono ?_
  rintro e w1 ⟨rfl, h2⟩
  generalize W.heap.size = F0 at *
  clear h1
  have a0 : w1.cell? ⟨F0, 0, none⟩ = some (.int .i64 n) := h2.cell 0
  have a1 : w1.cell? ⟨F0, 1, none⟩ = some (.slice A cls.length c) := h2.cell 1
  have L0 := lend_at w1 n (.slice A cls.length c) cls ((Ent.tail hr).use h2) hs1 hs2
  go_wp2_with fail
  refine L0.mono ?_
  rintro e w2 ⟨B1, m1, c1, rfl, hp⟩
  have h4 := (hp _ _ h2).alloc (.cells #[.int .i64 n, .slice B1 m1 c1] 24)
  clear hp L0 h2 a0 a1
  have L1 := lent_at _ va a ((Ent.tail (Ent.tail (Ent.tail ha))).use h4) hla
  go_wp2_with fail
  refine L1.mono ?_
  rintro e w3 ⟨B2, m2, c2, rfl, hp⟩
  have h5 := hp _ _ h4
  clear hp L1 h4
  generalize w2.heap.size = F1 at *
  have L2 := lent_at w3 vb b ((Ent.tail (Ent.tail (Ent.tail (Ent.tail hb)))).use h5) hlb
  go_wp2_with fail
  refine L2.mono ?_
  rintro e w4 ⟨B3, m3, c3, rfl, hp⟩
  have h6 := hp _ _ h5
  clear hp L2 h5
  obtain ⟨RS, hRS⟩ : ∃ RS : List HP, RS = [LentC (.slice B3 m3 c3) b, LentC (.slice B2 m2 c2) a, Blk F1 (.cells #[.int .i64 n, .slice B1 m1 c1] 24 (0, 0)), LentF (.slice B1 m1 c1) cls, Blk F0 (.cells #[.int .i64 n, .slice A cls.length c] 24 (0, 0)), Old W] := ⟨_, rfl⟩
  rw [← hRS] at h6
  have EX : Ent RS (Rd (cInt .i64) (.slice B2 m2 c2) a) := by rw [hRS]; exact Ent.tail Ent.lent
  have EY : Ent RS (Rd (cInt .i64) (.slice B3 m3 c3) b) := by rw [hRS]; exact Ent.lent
  have EO : Ent RS (Rd2 (cInt .i64) (.slice B1 m1 c1) cls) := by rw [hRS]; exact Ent.tail (Ent.tail (Ent.tail Ent.lentF))
  have ET : Ent RS Tab := by rw [hRS]; exact Ent.tail (Ent.tail (Ent.tail (Ent.tail (Ent.tail uT))))
  have EF0 : Ent RS (fun w => w.cell? ⟨F1, 0, none⟩ = some (.int .i64 n)) := by rw [hRS]; exact fun w0 w h => (h.pull 2).cell 0
  have EF1 : Ent RS (fun w => w.cell? ⟨F1, 1, none⟩ = some (.slice B1 m1 c1)) := by rw [hRS]; exact fun w0 w h => (h.pull 2).cell 1
  have HRS := Lib.hid hRS; clear hRS
  have h7 : SL.St W (Ref (.slice none 0 0) [] :: Pool [] :: RS) w4 := SL.St.ref_nil (SL.St.all_nil h6)
  clear h6
  have fN := norm_fits hla
  have fR := res_fits a b v
  have fA := @assign_fits n li cls ⟨hs1, hs2⟩
  have fT := @tidy_fits n cls ⟨hs1, hs2⟩
  have fE := @elim_fits n v cls
  have hsa : Fits cls := ⟨hs1, hs2⟩
  have HFA := Lib.hid fA
  have HFT := Lib.hid fT
  have HFE := Lib.hid fE
  have HS := Lib.hid hsa
  clear fA fT fE hsa hs1 hs2
  go_wp2_with fail
  go_loopg [11, 15] 2 (fun k vt i wr => ∃ (j : Nat) (qs : Ent2), j ≤ 2 ∧ k = 2 - j ∧ i = .int .i64 j ∧ qs.length ≤ 3145730 * j ∧ (∀ p ∈ qs, p.2.length ≤ 1048576) ∧ SL.St W (Ref vt qs :: Pool qs :: RS) wr)
  case atStart => exact ⟨0, [], by omega, rfl, rfl, by simp, (fun p hp => nomatch hp), h7⟩
  case round =>
    clear h7
    obtain ⟨j, qs, hj, hgk, rfl, hql, hqs, hsr⟩ := hrel
    subst hgk
    have HQS := Lib.hid hqs; clear hqs
    obtain ⟨At, ct, rfl, -⟩ := SL.St.ref_form hsr
    by_cases hlt : j < 2
    · have NW := norm_walk W wr _ hsr (.slice B2 m2 c2) a ((Ent.tail (Ent.tail EX)).use hsr) hIa
      have AW := fun (w' : World) (l' : List HP) (h : SL.St W l' w') (q : Ent l' (Rd2 (cInt .i64) (.slice B1 m1 c1) cls)) => assign_walk W w' l' h n hn _ cls q hI li hlI
      have TW := fun (w' : World) (l' : List HP) (h : SL.St W l' w') (q : Ent l' (Rd2 (cInt .i64) (.slice B1 m1 c1) cls)) (q2 : Ent l' Tab) => tidy_walk W w' l' h n hn _ cls q hI q2
      have EW := fun (w' : World) (l' : List HP) (h : SL.St W l' w') (q : Ent l' (Rd2 (cInt .i64) (.slice B1 m1 c1) cls)) (q2 : Ent l' Tab) => eliminate_walk W w' l' h n hn _ cls q hI q2 v hvI
      have RW := fun (w' : World) (l' : List HP) (h : SL.St W l' w') (q : Ent l' (Rd (cInt .i64) (.slice B2 m2 c2) a)) (q2 : Ent l' (Rd (cInt .i64) (.slice B3 m3 c3) b)) => resolve_walk W w' l' h _ _ a b q q2 hIa hIb v hvI
      generalize normS a = S1 at *
      generalize normT a = t1 at *
      generalize normE a = e1 at *
      generalize resM a b v = R at *
      obtain ⟨S2, e2⟩ := R
      generalize assignM n cls li = R3 at *
      obtain ⟨n3, G3, e3⟩ := R3
      generalize tidyM n cls = R4 at *
      obtain ⟨n4, G4, e4⟩ := R4
      generalize elimM n cls v = R5 at *
      obtain ⟨n5, G5, e5⟩ := R5
      simp only at RW AW TW EW HFA HFT HFE fR
      have HRW := Lib.hid RW; have HAW := Lib.hid AW; have HTW := Lib.hid TW; have HEW := Lib.hid EW
      clear RW AW TW EW
      go_wp2_with fail
      refine NW.mono ?_
      rintro e wA ⟨v1, rfl, g1⟩
      obtain ⟨A1, d1, rfl, -, -⟩ := g1.rd
      clear NW hsr
      have RW := HRW.out _ _ g1 (Ent.tail (Ent.tail (Ent.tail EX))) (Ent.tail (Ent.tail (Ent.tail EY)))
      go_wp2_with fail
      refine RW.mono ?_
      rintro e wB ⟨v2, rfl, g2⟩
      obtain ⟨A2, d2, rfl, -, -⟩ := g2.rd
      clear RW g1
      have k0 := (Ent.tail (Ent.tail (Ent.tail (Ent.tail EF0)))).use g2
      have k1 := (Ent.tail (Ent.tail (Ent.tail (Ent.tail EF1)))).use g2
      have AW := HAW.out _ _ g2 (Ent.tail (Ent.tail (Ent.tail (Ent.tail EO))))
      go_wp2_with fail
      refine AW.mono ?_
      rintro e wC ⟨v3, rfl, g3⟩
      obtain ⟨A3, d3, rfl, -, -⟩ := g3.rd2.at
      clear AW g2 k0 k1
      have g4 := g3.alloc (.cells #[.int .i64 n3, .slice A3 G3.length d3] 24)
      clear g3
      have k0 := (Ent.tail (Ent.tail (Ent.tail (Ent.tail (Ent.tail (Ent.tail EF0)))))).use g4
      have k1 := (Ent.tail (Ent.tail (Ent.tail (Ent.tail (Ent.tail (Ent.tail EF1)))))).use g4
      have TW := HTW.out _ _ g4 (Ent.tail (Ent.tail (Ent.tail (Ent.tail (Ent.tail (Ent.tail EO)))))) (Ent.tail (Ent.tail (Ent.tail (Ent.tail (Ent.tail (Ent.tail ET))))))
      go_wp2_with fail
      refine TW.mono ?_
      rintro e wD ⟨v4, rfl, g5⟩
      obtain ⟨A4, d4, rfl, -, -⟩ := g5.rd2.at
      clear TW g4 k0 k1
      generalize wC.heap.size = f3 at *
      have g6 := g5.alloc (.cells #[.int .i64 n4, .slice A4 G4.length d4] 24)
      clear g5
      have k0 := (Ent.tail (Ent.tail (Ent.tail (Ent.tail (Ent.tail (Ent.tail (Ent.tail (Ent.tail EF0)))))))).use g6
      have k1 := (Ent.tail (Ent.tail (Ent.tail (Ent.tail (Ent.tail (Ent.tail (Ent.tail (Ent.tail EF1)))))))).use g6
      have EW := HEW.out _ _ g6 (Ent.tail (Ent.tail (Ent.tail (Ent.tail (Ent.tail (Ent.tail (Ent.tail (Ent.tail EO)))))))) (Ent.tail (Ent.tail (Ent.tail (Ent.tail (Ent.tail (Ent.tail (Ent.tail (Ent.tail ET))))))))
      go_wp2_with fail
      refine EW.mono ?_
      rintro e wE ⟨v5, rfl, g7⟩
      obtain ⟨A5, d5, rfl, -, -⟩ := g7.rd2.at
      clear EW g6 k0 k1
      generalize wD.heap.size = f4 at *
      have g8 := g7.alloc (.cells #[.int .i64 n5, .slice A5 G5.length d5] 24)
      clear g7
      obtain ⟨q5, e5', k1⟩ := SL.St.pool_of (g8.sel [1])
      obtain ⟨q4, e4', k2⟩ := SL.St.pool_of (k1.sel [4])
      obtain ⟨q3, e3', k3⟩ := SL.St.pool_of (k2.sel [7])
      clear g8 k1 k2
      have k4 := SL.St.pool_snoc (s := ((A1, S1.length, d1) : Slc)) (k3.sel [10, 12])
      have k5 := SL.St.pool_snoc (s := ((A2, S2.length, d2) : Slc)) (k4.sel [10, 0])
      have k6 := SL.St.pool_app (k5.sel [2, 0])
      have k7 := SL.St.pool_app (k6.sel [3, 0])
      have k8 := SL.St.pool_app (k7.sel [4, 0])
      clear k3 k4 k5 k6 k7
      have l3 : q3.length = G3.length := by rw [← e3', List.length_map]
      have l4 : q4.length = G4.length := by rw [← e4', List.length_map]
      have l5 : q5.length = G5.length := by rw [← e5', List.length_map]
      have hg3 := HFA.out.1
      have hg4 := HFT.out.1
      have hg5 := HFE.out.1
      have HL := Lib.hid (And.intro l3 (And.intro l4 (And.intro l5 (And.intro hg3 (And.intro hg4 (And.intro hg5 hql))))))
      have hQ : ∀ p ∈ qs ++ [(((A1, S1.length, d1) : Slc), S1)] ++ [(((A2, S2.length, d2) : Slc), S2)] ++ q3 ++ q4 ++ q5, p.2.length ≤ 1048576 := fun p hp => by
        simp only [List.mem_append, List.mem_singleton] at hp
        rcases hp with ((((h | rfl) | rfl) | h) | h) | h
        · exact HQS.out p h
        · exact fN
        · exact fR
        · exact HFA.out.2 _ (by rw [← e3']; exact List.mem_map_of_mem h)
        · exact HFT.out.2 _ (by rw [← e4']; exact List.mem_map_of_mem h)
        · exact HFE.out.2 _ (by rw [← e5']; exact List.mem_map_of_mem h)
      have HQ := Lib.hid hQ
      clear hQ l3 l4 l5 hg3 hg4 hg5 e3' e4' e5' hql
      have hz := k8.alloc (.cells #[.slice A1 S1.length d1, .slice A2 S2.length d2] 51)
      simp only [World.size_alloc] at hz
      go_wp2_with (at_builtin; first | ((refine wpList_app (d := cSlc) (xs := qs.map Prod.fst ++ [(A1, S1.length, d1), (A2, S2.length, d2)] ++ q3.map Prod.fst ++ q4.map Prod.fst) rfl _ _ rfl Tryd.underlying22 infoClause rfl p3 rfl (ys := q5.map Prod.fst) rfl ((p3.pull 4).rd) (by have := HL.out; simp; omega) (by have := HL.out; simp; omega) ?_); intro vt4 wI p4) | ((refine wpList_app (d := cSlc) (xs := qs.map Prod.fst ++ [(A1, S1.length, d1), (A2, S2.length, d2)] ++ q3.map Prod.fst) rfl _ _ rfl Tryd.underlying22 infoClause rfl p2 rfl (ys := q4.map Prod.fst) rfl ((p2.pull 3).rd) (by have := HL.out; simp; omega) (by have := HL.out; simp; omega) ?_); intro vt3 wH p3; obtain ⟨At3, ct3, rfl, -, -⟩ := p3.rd; obtain ⟨N3, hN⟩ : ∃ N, N = List.length (α := Slc) (qs.map Prod.fst ++ [(A1, S1.length, d1), (A2, S2.length, d2)] ++ q3.map Prod.fst ++ q4.map Prod.fst) := ⟨_, rfl⟩; rw [← hN] at p3 ⊢; clear hN; have k33 := (p3.pull 5).cell 1) | ((refine wpList_app (d := cSlc) (xs := qs.map Prod.fst ++ [(A1, S1.length, d1), (A2, S2.length, d2)]) rfl _ _ rfl Tryd.underlying22 infoClause rfl p1 rfl (ys := q3.map Prod.fst) rfl ((p1.pull 2).rd) (by have := HL.out; simp; omega) (by have := HL.out; simp; omega) ?_); intro vt2 wG p2; obtain ⟨At2, ct2, rfl, -, -⟩ := p2.rd; obtain ⟨N2, hN⟩ : ∃ N, N = List.length (α := Slc) (qs.map Prod.fst ++ [(A1, S1.length, d1), (A2, S2.length, d2)] ++ q3.map Prod.fst) := ⟨_, rfl⟩; rw [← hN] at p2 ⊢; clear hN; have k32 := (p2.pull 6).cell 1) | ((refine wpList_app rfl _ _ rfl Tryd.underlying22 infoClause rfl (hz.pull 8) rfl (ys := ([(A1, S1.length, d1), (A2, S2.length, d2)] : List Slc)) rfl (hz.rd_blk (d := cSlc) (ys := ([(A1, S1.length, d1), (A2, S2.length, d2)] : List Slc)) 2 2 rfl rfl (by decide)) (by have := HL.out; simp; omega) (by have := HL.out; simp; omega) ?_); intro vt1 wF m1; obtain ⟨At1, ct1, rfl, -, -⟩ := m1.rd; obtain ⟨N1, hN⟩ : ∃ N, N = List.length (α := Slc) (qs.map Prod.fst ++ [(A1, S1.length, d1), (A2, S2.length, d2)]) := ⟨_, rfl⟩; rw [← hN] at m1 ⊢; clear hN; have p1 : SL.St W (Arr cSlc 51 (.slice At1 N1 ct1) (qs.map Prod.fst ++ [(A1, S1.length, d1), (A2, S2.length, d2)]) :: Pool _ :: Ref (.slice A3 G3.length d3) q3 :: Ref (.slice A4 G4.length d4) q4 :: Ref (.slice A5 G5.length d5) q5 :: Blk _ (.cells #[.int .i64 n5, .slice A5 G5.length d5] 24 (0, 0)) :: Blk _ (.cells #[.int .i64 n4, .slice A4 G4.length d4] 24 (0, 0)) :: Blk _ (.cells #[.int .i64 n3, .slice A3 G3.length d3] 24 (0, 0)) :: RS) _ := m1.sel [0] 1; have k31 := (p1.pull 7).cell 1))
      clear p3 p2 p1 m1 hz k8 k31 k32 k33
      have p5 : SL.St W (Ref vt4 (qs ++ [(((A1, S1.length, d1) : Slc), S1)] ++ [(((A2, S2.length, d2) : Slc), S2)] ++ q3 ++ q4 ++ q5) :: Pool (qs ++ [(((A1, S1.length, d1) : Slc), S1)] ++ [(((A2, S2.length, d2) : Slc), S2)] ++ q3 ++ q4 ++ q5) :: RS) wI := by
        have e : qs.map Prod.fst ++ [(A1, S1.length, d1), (A2, S2.length, d2)] ++ q3.map Prod.fst ++ q4.map Prod.fst ++ q5.map Prod.fst = (qs ++ [(((A1, S1.length, d1) : Slc), S1)] ++ [(((A2, S2.length, d2) : Slc), S2)] ++ q3 ++ q4 ++ q5).map Prod.fst := by simp
        rw [e] at p4
        exact p4.sel [0, 1] 6
      clear p4
      go_roundg (2 - (j + 1))
      case measure => omega
      case rel => exact ⟨j + 1, _, by omega, rfl, by go_num, by have := HL.out; simp only [List.length_append, List.length_singleton]; omega, HQ.out, p5⟩
    · obtain rfl : j = 2 := by omega
      have hq2 : qs.length ≤ 6291460 := by omega
      clear hql hj hlt
      have h8 : SL.St W (Ref (.slice none 0 0) [] :: All [] :: Pool (qs.drop 0) :: Ref (.slice At qs.length ct) qs :: RS) wr := SL.St.ref_nil (SL.St.all_nil hsr.swap)
      clear hsr
      have HQ2 := Lib.hid hq2
      go_wp2_with fail
      go_loopg [27, 28] qs.length (fun k vl i wr => ∃ (j : Nat) (ls : Ent2) (Ps : List HP), j ≤ qs.length ∧ k = qs.length - j ∧ i = .int .i64 j ∧ Dones Ps qs ls j ∧ SL.St W (Ref vl ls :: All Ps :: Pool (qs.drop j) :: Ref (.slice At qs.length ct) qs :: RS) wr)
      case atStart => exact ⟨0, [], [], Nat.zero_le _, rfl, rfl, Dones.nil, h8⟩
      case round =>
        clear h8
        obtain ⟨j, ls, Ps, hj, hgk, rfl, hD, hsr⟩ := hrel
        subst hgk
        have HD := Lib.hid hD
        obtain ⟨Al, cl, rfl, -⟩ := SL.St.ref_form hsr
        clear hD
        by_cases hlt : j < qs.length
        · obtain ⟨ad, c', hv', hcell⟩ := SL.St.ref_at (hsr.pull 3) j hlt
          obtain rfl : At = some ad := by injection hv'
          rw [List.drop_eq_getElem_cons hlt] at hsr
          have o1 := SL.St.pool_uncons (hsr.sel [2])
          have hgT : ∀ (w' : World) (l' : List HP), SL.St W (Ref (.slice (some ad) qs.length ct) qs :: l') w' → w'.cell? (ad.add j) = some qs[j].1.val := fun w' l' h => by
            obtain ⟨ad', c2, hv2, hc2⟩ := SL.St.ref_at h j hlt
            obtain rfl : ad = ad' := by injection hv2 with e; injection e
            exact hc2
          have hqj : qs[j]? = some qs[j] := List.getElem?_eq_getElem hlt
          have hx := HQS.out _ (List.getElem_mem hlt)
          clear hsr hv'
          generalize qs[j] = q at *
          obtain ⟨⟨sa, sn, sc⟩, x⟩ := q
          replace hcell : wr.cell? (ad.add j) = some (.slice sa sn sc) := hcell
          replace hgT : ∀ (w' : World) (l' : List HP), SL.St W (Ref (.slice (some ad) qs.length ct) qs :: l') w' → w'.cell? (ad.add j) = some (.slice sa sn sc) := hgT
          replace hx : x.length ≤ 1048576 := hx
          replace o1 : SL.St W (Arr (cInt .i64) 3 (.slice sa sn sc) x :: Pool (qs.drop (j + 1)) :: Ref (.slice Al ls.length cl) ls :: All Ps :: Ref (.slice (some ad) qs.length ct) qs :: RS) wr := o1
          obtain ⟨A', c'', hv', -, -⟩ := o1.rd
          obtain rfl : sn = x.length := by injection hv'
          clear hv'
          have HQJ := Lib.hid hqj; clear hqj
          have HGT := Lib.hid hgT; clear hgT
          go_wp2_with fail
          go_loopg [29] x.length (fun k' i wr => ∃ (t : Nat) (M : List Int), t ≤ x.length ∧ k' = x.length - t ∧ i = .int .i64 t ∧ M.length = x.length ∧ (∀ (u : Nat) (y : Int), u < t → M[u]? = some y → y = 1000 + (j : Int)) ∧ SL.St W (Arr (cInt .i64) 3 (.slice sa x.length sc) M :: Pool (qs.drop (j + 1)) :: Ref (.slice Al ls.length cl) ls :: All Ps :: Ref (.slice (some ad) qs.length ct) qs :: RS) wr)
          case atStart => exact ⟨0, x, Nat.zero_le _, rfl, rfl, rfl, fun u y h => by omega, o1⟩
          case round =>
            clear o1 hcell
            obtain ⟨t, M, ht, hgk, rfl, hMl, hMv, hs2⟩ := hrel
            subst hgk
            have hcell := HGT.out _ _ (hs2.pull 4)
            have HML := Lib.hid hMl; clear hMl
            have HMV := Lib.hid hMv; clear hMv
            by_cases hlt2 : t < x.length
            · obtain ⟨gb, cb, hv⟩ := hs2.arr_form (by rw [HML.out]; omega)
              obtain rfl : sa = some ⟨gb, 0, none⟩ := by injection hv
              clear hv
              obtain ⟨c0, c1'⟩ := hs2.arr_cell1 rfl t _ (List.getElem?_eq_getElem (by rw [HML.out]; exact hlt2)) _ rfl
              have hset := hs2.arr_set1 rfl t (by rw [HML.out]; exact hlt2) (1000 + (j : Int)) _ rfl
              go_wp2_with fail
              go_roundg (x.length - (t + 1))
              case measure => omega
              case rel => exact ⟨t + 1, _, by omega, rfl, by go_num, by rw [List.length_set]; exact HML.out, full_set HMV.out, hset⟩
            · obtain rfl : t = x.length := by omega
              obtain rfl := full_row HML.out HMV.out
              clear HML HMV
              have hb2 := hs2.alloc (.cells #[.int .i64 (2000 + (j : Int)), .int .i64 (2000 + (j : Int))] 3)
              go_wp2_with (at_builtin; first
                | ((refine wpList_app (d := cSlc) (xs := ls.map Prod.fst) rfl _ _ rfl Tryd.underlying22 infoClause rfl (hb3.pull 4) rfl (ys := ([(A7, x.length + 2, c7)] : List Slc)) rfl (hb3.rd_blk (d := cSlc) (ys := ([(A7, x.length + 2, c7)] : List Slc)) 1 1 rfl rfl (by decide)) (by have := HQ2.out; have := HD.out.lenL; simp; omega) (by have := HQ2.out; have := HD.out.lenL; simp; omega) ?_); intro vl2 w8 h9)
                | ((refine wpList_app_keep (d := cInt .i64) (xs := List.replicate x.length (1000 + (j : Int))) rfl _ _ rfl Tryd.underlying51 infoInt rfl (hb2.pull 1) rfl (ys := ([2000 + (j : Int), 2000 + (j : Int)] : List Int)) rfl (hb2.rd_blk (d := cInt .i64) (ys := ([2000 + (j : Int), 2000 + (j : Int)] : List Int)) 2 2 rfl rfl (by decide)) (by simp) (by simp; omega) (by simp; omega) ?_); intro v7 w7 h7; obtain ⟨A7, c7, P7, rfl, hP7, h8⟩ := done_keep h7; have hb3 := h8.alloc (.cells #[.slice A7 (x.length + 2) c7] 51)))
              have h10 := SL.St.ref_snoc (x := ([] : List Int)) h9
              have h11 := (SL.St.all_snoc (h10.sel [2, 5])).sel [1, 0] 2
              have h12 : SL.St W (Ref vl2 (ls ++ [((A7, x.length + 2, c7), ([] : List Int))]) :: All (Ps ++ [P7]) :: Pool (qs.drop (j + 1)) :: Ref (.slice (some ad) qs.length ct) qs :: RS) w8 := h11
              clear h7 h8 h9 h10 h11 hb2 hb3 hs2 hcell
              go_roundg (qs.length - (j + 1))
              case measure => omega
              case rel => exact ⟨j + 1, _, _, by omega, rfl, by go_num, HD.out.snoc HQJ.out hP7, h12⟩
        · obtain rfl : j = qs.length := by omega
          have HDA := Lib.hid HD.out.at
          clear HD
          go_wp2_with fail
          go_loopg [30] qs.length (fun k i wr => ∃ t : Nat, t ≤ qs.length ∧ k = qs.length - t ∧ i = .int .i64 t ∧ SL.St W (Ref (.slice Al ls.length cl) ls :: All Ps :: Pool (qs.drop qs.length) :: Ref (.slice At qs.length ct) qs :: RS) wr)
          case atStart => exact ⟨0, Nat.zero_le _, rfl, rfl, hsr⟩
          case round =>
            clear hsr
            obtain ⟨t, ht, hgk, rfl, hsr⟩ := hrel
            subst hgk
            by_cases hlt : t < qs.length
            · obtain ⟨ad, c', hv', hcell⟩ := SL.St.ref_at (hsr.pull 3) t hlt
              obtain rfl : At = some ad := by injection hv'
              obtain ⟨hl2, hRR⟩ := HDA.out t hlt
              obtain ⟨al, c', hv', hcell2⟩ := SL.St.ref_at hsr t hl2
              obtain rfl : Al = some al := by injection hv'
              clear hv'
              have hall : ∀ (w' : World), SL.St W (Ref (.slice (some al) ls.length cl) ls :: All Ps :: Pool (qs.drop qs.length) :: Ref (.slice (some ad) qs.length ct) qs :: RS) w' → w'.cell? (ad.add t) = some qs[t].1.val ∧ w'.cell? (al.add t) = some ls[t].1.val ∧
                  Rd (cInt .i64) qs[t].1.val (List.replicate qs[t].2.length (1000 + (t : Int))) w' ∧ Rd (cInt .i64) ls[t].1.val (List.replicate qs[t].2.length (1000 + (t : Int)) ++ [2000 + (t : Int), 2000 + (t : Int)]) w' := fun w' h => by
                obtain ⟨r1, r2⟩ := hRR _ _ _ (h.pull 1)
                refine ⟨?_, ?_, r1, r2⟩
                · obtain ⟨ad', c2, hv2, hc2⟩ := SL.St.ref_at (h.pull 3) t hlt
                  obtain rfl : ad = ad' := by injection hv2 with e; injection e
                  exact hc2
                · obtain ⟨ad', c2, hv2, hc2⟩ := SL.St.ref_at h t hl2
                  obtain rfl : al = ad' := by injection hv2 with e; injection e
                  exact hc2
              have hx := HQS.out _ (List.getElem_mem hlt)
              clear hRR hcell hcell2
              generalize qs[t] = q at *
              generalize ls[t] = r at *
              obtain ⟨⟨sa, sn, sc⟩, x⟩ := q
              obtain ⟨⟨la, ln, lc⟩, x'⟩ := r
              replace hx : x.length ≤ 1048576 := hx
              obtain ⟨hcell, hcell2, ⟨A', k', hv', -, -⟩, ⟨A2', k2', hv2', -, -⟩⟩ := hall _ hsr
              obtain rfl : sn = x.length := by injection hv' with e1 e2 e3; rw [List.length_replicate] at e2; exact e2
              obtain rfl : ln = x.length + 2 := by injection hv2' with e1 e2 e3; rw [List.length_append, List.length_replicate] at e2; exact e2
              clear hv' hv2'
              replace hcell : wr.cell? (ad.add t) = some (.slice sa x.length sc) := hcell
              replace hcell2 : wr.cell? (al.add t) = some (.slice la (x.length + 2) lc) := hcell2
              replace hall : ∀ (w' : World), SL.St W (Ref (.slice (some al) ls.length cl) ls :: All Ps :: Pool (qs.drop qs.length) :: Ref (.slice (some ad) qs.length ct) qs :: RS) w' → w'.cell? (ad.add t) = some (.slice sa x.length sc) ∧ w'.cell? (al.add t) = some (.slice la (x.length + 2) lc) ∧
                  Rd (cInt .i64) (.slice sa x.length sc) (List.replicate x.length (1000 + (t : Int))) w' ∧ Rd (cInt .i64) (.slice la (x.length + 2) lc) (List.replicate x.length (1000 + (t : Int)) ++ [2000 + (t : Int), 2000 + (t : Int)]) w' := hall
              have HALL := Lib.hid hall; clear hall
              go_wp2_with fail
              go_loopg [31] x.length (fun k' i wr => ∃ u : Nat, u ≤ x.length ∧ k' = x.length - u ∧ i = .int .i64 u ∧ SL.St W (Ref (.slice (some al) ls.length cl) ls :: All Ps :: Pool (qs.drop qs.length) :: Ref (.slice (some ad) qs.length ct) qs :: RS) wr)
              case atStart => exact ⟨0, Nat.zero_le _, rfl, rfl, hsr⟩
              case round =>
                clear hsr hcell hcell2
                obtain ⟨u, hu, hgk, rfl, hsr⟩ := hrel
                subst hgk
                obtain ⟨hcell, hcell2, r1, r2⟩ := HALL.out _ hsr
                by_cases hlt3 : u < x.length
                · obtain ⟨e1, rfl, k1⟩ := rd_get (i := u) (x := 1000 + (t : Int)) r1 (by simp [hlt3])
                  obtain ⟨e2, rfl, k2⟩ := rd_get (i := u) (x := 1000 + (t : Int)) r2 (by rw [List.getElem?_append_left (by rw [List.length_replicate]; exact hlt3)]; simp [hlt3])
                  clear r1 r2
                  go_wp2_with fail
                  go_roundg (x.length - (u + 1))
                  case measure => omega
                  case rel => exact ⟨u + 1, by omega, rfl, by go_num, hsr⟩
                · obtain rfl : u = x.length := by omega
                  obtain ⟨e2, rfl, k1⟩ := rd_get (i := x.length) (x := 2000 + (t : Int)) r2 (by rw [List.getElem?_append_right (by rw [List.length_replicate]; exact Nat.le_refl _)]; simp)
                  obtain ⟨e3, he3, k2⟩ := rd_get (i := x.length + 1) (x := 2000 + (t : Int)) r2 (by rw [List.getElem?_append_right (by rw [List.length_replicate]; omega)]; simp)
                  obtain rfl : e2 = e3 := by injection he3
                  clear r1 r2 he3
                  have q1 : (x.length : Int) < (x.length : Int) + 2 := by omega
                  have q2 : (x.length : Int) + 1 < (x.length : Int) + 2 := by omega
                  have q3 : ((x.length : Int) + 1).toNat = x.length + 1 := by omega
                  have q4 : 0 ≤ (x.length : Int) + 1 := by omega
                  generalize x.length + 1 = y at k2 q3
                  have q5 : IntKind.i64.wrap ((x.length : Int) + 1) = (x.length : Int) + 1 := by simp [IntKind.wrap, IntKind.bits, IntKind.signed]; omega
                  have q6 : IntKind.i64.wrap (2000 + (t : Int)) = 2000 + (t : Int) := by simp [IntKind.wrap, IntKind.bits, IntKind.signed]; omega
                  go_wp2_with fail
                  go_quiet (fail)
                  go_wp2_with fail
                  go_roundg (qs.length - (t + 1))
                  case measure => omega
                  case rel => exact ⟨t + 1, by omega, rfl, by go_num, hsr.drewN _⟩
            · obtain rfl : t = qs.length := by omega
              have h20 : SL.St W RS wr := hsr.drop.drop.drop.drop
              rw [HRS.out] at h20
              have a0 : wr.cell? ⟨F0, 0, none⟩ = some (.int .i64 n) := (h20.pull 4).cell 0
              have a1 : wr.cell? ⟨F0, 1, none⟩ = some (.slice A cls.length c) := (h20.pull 4).cell 1
              have b0 : wr.cell? ⟨F1, 0, none⟩ = some (.int .i64 n) := (h20.pull 2).cell 0
              have b1 : wr.cell? ⟨F1, 1, none⟩ = some (.slice B1 m1 c1) := (h20.pull 2).cell 1
              have WH := whole_walk wr n (.slice B1 m1 c1) (.slice A cls.length c) cls (St.rdLF (h20.pull 3)) ((Ent.tail (Ent.tail (Ent.tail (Ent.tail (Ent.tail hr))))).use h20)
              clear hsr
              go_wp2_with fail
              refine WH.mono ?_
              rintro e w' ⟨rfl, q2, rfl⟩
              have h21 := SL.St.drewN (((h20.alloc (.cells #[.int .i64 n, .slice B1 m1 c1] 24)).alloc (.cells #[.int .i64 n, .slice A cls.length c] 24)).drop.drop) q2
              generalize World.drewN _ q2 = w5 at h21 ⊢
              clear WH h20 a0 a1 b0 b1
              have KX := kept_walk w5 (.slice B2 m2 c2) va a (St.rdLC (h21.pull 1)) ((Ent.tail (Ent.tail (Ent.tail (Ent.tail (Ent.tail ha))))).use h21)
              go_wp2_with fail
              refine KX.mono ?_
              rintro e w' ⟨rfl, q3, rfl⟩
              have h22 := SL.St.drewN h21 q3
              generalize World.drewN _ q3 = w6 at h22 ⊢
              clear KX h21
              have KY := kept_walk w6 (.slice B3 m3 c3) vb b (St.rdLC h22) ((Ent.tail (Ent.tail (Ent.tail (Ent.tail (Ent.tail hb))))).use h22)
              go_wp2_with fail
              refine KY.mono ?_
              rintro e w' ⟨rfl, q4, rfl⟩
              have h23 := SL.St.drewN h22 q4
              generalize World.drewN _ q4 = w7 at h23 ⊢
              clear KY h22
              go_wp2_with fail
              go_ret
              exact ⟨rfl, h23.sel [] 5⟩
end Go.Proofs.YtnmkdhoijdoccaaDoor
