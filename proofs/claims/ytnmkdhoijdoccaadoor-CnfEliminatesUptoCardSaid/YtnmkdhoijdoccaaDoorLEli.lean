/- The law CnfEliminates. -/
import Derived.Test.YtnmkdhoijdoccaaDoorLChk
import Derived.Test.YtnmkdhoijdoccaaDoorCnEp
import Derived.Test.YtnmkdhoijdoccaaDoorCnEr
set_option linter.unusedVariables false
set_option linter.unusedSimpArgs false
namespace Go.Proofs.YtnmkdhoijdoccaaDoor
open Go Go.RowKit SL

set_option maxRecDepth 100000 in
set_option maxHeartbeats 8000000 in
theorem eliminates_walk (W : World) (htab : Tab W) (n : Int) (vf : Value) (cls : List (List Int)) (v : Int) (hn : I64 n) (hr : Ent [Old W] (Rd2 (cInt .i64) vf cls)) (hI : ∀ c ∈ cls, ∀ x ∈ c, I64 x) (hvI : I64 v) (hsz : (cls.map fun c => c.length + 1).sum ≤ 1048576) :
    Calls Tryd.prog 5 #[.agg #[.int .i64 n, vf], .int .i64 v] W fun e w' => e = .returned (.bool true) ∧ SL.St W [Old W] w' := by
  obtain ⟨hs1, hs2⟩ := sum_bounds hsz
  obtain ⟨A, c, rfl, -, -⟩ := (hr.use (SL.St.start W)).at
  have h1 := (SL.St.start W).alloc (.cells #[.int .i64 n, .slice A cls.length c] 24)
  have L0 := lend_at _ n (.slice A cls.length c) cls ((Ent.tail hr).use h1) hs1 hs2
  have a0 := h1.cell 0
  have a1 := h1.cell 1
  go_enter Tryd.func5, Tryd.ntmps5
  go_wp2_with fail
  refine L0.mono ?_
  rintro e w1 ⟨B1, m1, c1, rfl, hp⟩
  have h2 := hp _ _ h1
  clear hp L0 h1 a0 a1
  generalize W.heap.size = F0 at *
  have h3 := h2.alloc (.cells #[.int .i64 n, .slice B1 m1 c1] 24)
  have C1 := eliminate_walk W _ _ h3 n hn (.slice B1 m1 c1) cls (Ent.tail Ent.lentF) hI (Ent.tail (Ent.tail (Ent.tail (SL.tab_old htab)))) v hvI
  have C2 := fun (w' : World) (l' : List HP) (h : SL.St W l' w') (q : Ent l' (Rd2 (cInt .i64) (.slice A cls.length c) cls)) => reliminate_walk W w' l' h n hn (.slice A cls.length c) cls q hI v hvI
  generalize elimM n cls v = U at *
  obtain ⟨pn, L, er⟩ := U
  simp only at C1 C2
  have b0 := h3.cell 0
  have b1 := h3.cell 1
  clear h2
  go_wp2_with fail
  refine C1.mono ?_
  rintro e w2 ⟨v2, rfl, h4⟩
  obtain ⟨A2, c2, rfl, -, -⟩ := h4.rd2.at
  have h5 := h4.alloc (.cells #[.int .i64 pn, .slice A2 L.length c2] 24)
  have C3 := C2 _ _ h5 (Ent.tail (Ent.tail (Ent.tail (Ent.tail (Ent.tail hr)))))
  have a0 : (w2.alloc (.cells #[.int .i64 pn, .slice A2 L.length c2] 24)).cell? ⟨F0, 0, none⟩ = some (.int .i64 n) := (h5.pull 4).cell 0
  have a1 : (w2.alloc (.cells #[.int .i64 pn, .slice A2 L.length c2] 24)).cell? ⟨F0, 1, none⟩ = some (.slice A cls.length c) := (h5.pull 4).cell 1
  clear C1 C2 h3 h4 b0 b1
  generalize w1.heap.size = F1 at *
  go_wp2_with fail
  refine C3.mono ?_
  rintro e w3 ⟨v3, rfl, h6⟩
  obtain ⟨A3, c3, rfl, -, -⟩ := h6.rd2.at
  clear C3 h5 a0 a1
  generalize w2.heap.size = F2 at *
  have h7 := h6.alloc (.cells #[.int .i64 pn, .slice A3 L.length c3] 24)
  clear h6
  have AL := alike_walk W _ _ h7 pn pn (.slice A2 L.length c2) (.slice A3 L.length c3) L L (Ent.tail (Ent.tail (Ent.tail Ent.rd2))) (Ent.tail Ent.rd2)
  rw [decide_eq_true ⟨rfl, rfl⟩] at AL
  have f0 : (w3.alloc (.cells #[.int .i64 pn, .slice A3 L.length c3] 24)).cell? ⟨F2, 0, none⟩ = some (.int .i64 pn) := (h7.pull 2).cell 0
  have f1 : (w3.alloc (.cells #[.int .i64 pn, .slice A3 L.length c3] 24)).cell? ⟨F2, 1, none⟩ = some (.slice A2 L.length c2) := (h7.pull 2).cell 1
  have f2 := h7.cell 0
  have f3 := h7.cell 1
  have d1 : (er == er) = true := by simp
  go_wp2_with (go_at_call 13; refine (no_walk _ _).mono ?_; rintro e w' ⟨rfl, rfl⟩)
  refine AL.mono ?_
  rintro e w' ⟨rfl, q, rfl⟩
  have h8 := SL.St.drewN (((h7.alloc (.cells #[.int .i64 pn, .slice A2 L.length c2] 24)).alloc (.cells #[.int .i64 pn, .slice A3 L.length c3] 24)).drop.drop) q
  generalize World.drewN _ q = w4 at h8 ⊢
  clear AL h7 f0 f1 f2 f3
  have a0 : w4.cell? ⟨F0, 0, none⟩ = some (.int .i64 n) := (h8.pull 6).cell 0
  have a1 : w4.cell? ⟨F0, 1, none⟩ = some (.slice A cls.length c) := (h8.pull 6).cell 1
  have b0 : w4.cell? ⟨F1, 0, none⟩ = some (.int .i64 n) := (h8.pull 4).cell 0
  have b1 : w4.cell? ⟨F1, 1, none⟩ = some (.slice B1 m1 c1) := (h8.pull 4).cell 1
  have WH := whole_walk w4 n (.slice B1 m1 c1) (.slice A cls.length c) cls (St.rdLF (h8.pull 5)) ((Ent.tail (Ent.tail (Ent.tail (Ent.tail (Ent.tail (Ent.tail (Ent.tail hr))))))).use h8)
  go_wp2_with fail
  refine WH.mono ?_
  rintro e w' ⟨rfl, q2, rfl⟩
  have h9 := SL.St.drewN (((h8.alloc (.cells #[.int .i64 n, .slice B1 m1 c1] 24)).alloc (.cells #[.int .i64 n, .slice A cls.length c] 24)).drop.drop) q2
  generalize World.drewN _ q2 = w5 at h9 ⊢
  clear WH h8 a0 a1 b0 b1
  go_wp2_with fail
  refine (live_walk W w5 _ h9).mono ?_
  rintro e w6 ⟨rfl, h10⟩
  go_wp2_with fail
  go_ret
  exact ⟨rfl, h10.sel [7] 7⟩
end Go.Proofs.YtnmkdhoijdoccaaDoor
