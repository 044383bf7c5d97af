/- The law CnfPrints. -/
import Derived.Test.YtnmkdhoijdoccaaDoorLChk
import Derived.Test.YtnmkdhoijdoccaaDoorCnPp
import Derived.Test.YtnmkdhoijdoccaaDoorCnRp
set_option linter.unusedVariables false
set_option linter.unusedSimpArgs false
namespace Go.Proofs.YtnmkdhoijdoccaaDoor
open Go Go.RowKit SL

set_option maxRecDepth 100000 in
set_option maxHeartbeats 8000000 in
theorem prints_walk (W : World) (htab : Tab W) (n : Int) (vf : Value) (cls : List (List Int)) (hn : I64 n) (hr : Ent [Old W] (Rd2 (cInt .i64) vf cls)) (hI : ∀ c ∈ cls, ∀ x ∈ c, I64 x) (hsz : (cls.map fun c => c.length + 1).sum ≤ 1048576) :
    Calls Tryd.prog 6 #[.agg #[.int .i64 n, vf]] W fun e w' => e = .returned (.bool true) ∧ SL.St W [Old W] w' := by
  obtain ⟨hs1, hs2⟩ := sum_bounds hsz
  obtain ⟨A, c, rfl, -, -⟩ := (hr.use (SL.St.start W)).at
  have h1 := (SL.St.start W).alloc (.cells #[.int .i64 n, .slice A cls.length c] 24)
  have L0 := lend_at _ n (.slice A cls.length c) cls ((Ent.tail hr).use h1) hs1 hs2
  have a0 := h1.cell 0
  have a1 := h1.cell 1
  go_enter Tryd.func6, Tryd.ntmps6
  go_wp2_with fail
  refine L0.mono ?_
  rintro e w1 ⟨B1, m1, c1, rfl, hp⟩
  have h2 := hp _ _ h1
  clear hp L0 h1 a0 a1
  generalize W.heap.size = F0 at *
  have h3 := h2.alloc (.cells #[.int .i64 n, .slice B1 m1 c1] 24)
  have P1 := print_walk _ ((Ent.tail (Ent.tail (Ent.tail (SL.tab_old htab)))).use h3) n hn (.slice B1 m1 c1) cls (old2 ((Ent.tail Ent.lentF).use h3)) hI
  have P2 := fun (w' : World) (q : Rd2 (cInt .i64) (.slice A cls.length c) cls w') => rprint_walk w' n hn (.slice A cls.length c) cls (old2 q) hI
  generalize printM n cls = U at *
  obtain ⟨tx, er⟩ := U
  simp only at P1 P2
  have b0 := h3.cell 0
  have b1 := h3.cell 1
  clear h2
  go_wp2_with fail
  refine P1.mono ?_
  rintro e w2 ⟨rfl, hq⟩
  have h4 := St.through (ps := []) h3 hq
  have P3 := P2 w2 ((Ent.tail (Ent.tail (Ent.tail hr))).use h4)
  have a0 : w2.cell? ⟨F0, 0, none⟩ = some (.int .i64 n) := (h4.pull 2).cell 0
  have a1 : w2.cell? ⟨F0, 1, none⟩ = some (.slice A cls.length c) := (h4.pull 2).cell 1
  clear P1 P2 hq h3 b0 b1
  generalize w1.heap.size = F1 at *
  go_wp2_with fail
  refine P3.mono ?_
  rintro e w3 ⟨rfl, hq⟩
  have h5 := St.through (ps := []) h4 hq
  clear P3 hq h4 a0 a1
  have d1 : (er == er) = true := by simp
  have a0 : w3.cell? ⟨F0, 0, none⟩ = some (.int .i64 n) := (h5.pull 2).cell 0
  have a1 : w3.cell? ⟨F0, 1, none⟩ = some (.slice A cls.length c) := (h5.pull 2).cell 1
  have b0 : w3.cell? ⟨F1, 0, none⟩ = some (.int .i64 n) := (h5.pull 0).cell 0
  have b1 : w3.cell? ⟨F1, 1, none⟩ = some (.slice B1 m1 c1) := (h5.pull 0).cell 1
  have WH := whole_walk w3 n (.slice B1 m1 c1) (.slice A cls.length c) cls (St.rdLF (h5.pull 1)) ((Ent.tail (Ent.tail (Ent.tail hr))).use h5)
  go_wp2_with (go_at_call 13; refine (no_walk _ _).mono ?_; rintro e w' ⟨rfl, rfl⟩)
  refine WH.mono ?_
  rintro e w' ⟨rfl, q2, rfl⟩
  have h9 := SL.St.drewN (((h5.alloc (.cells #[.int .i64 n, .slice B1 m1 c1] 24)).alloc (.cells #[.int .i64 n, .slice A cls.length c] 24)).drop.drop) q2
  generalize World.drewN _ q2 = w5 at h9 ⊢
  clear WH h5 a0 a1 b0 b1
  go_wp2_with fail
  refine (live_walk W w5 _ h9).mono ?_
  rintro e w6 ⟨rfl, h10⟩
  go_wp2_with fail
  go_ret
  exact ⟨rfl, h10.sel [3] 3⟩
end Go.Proofs.YtnmkdhoijdoccaaDoor
