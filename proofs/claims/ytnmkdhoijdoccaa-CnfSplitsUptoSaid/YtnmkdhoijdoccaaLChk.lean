/- The law CnfChecks. -/
import Derived.Test.YtnmkdhoijdoccaaCnLv
import Derived.Test.YtnmkdhoijdoccaaCnWh
set_option linter.unusedVariables false
set_option linter.unusedSimpArgs false
namespace Go.Proofs.Ytnmkdhoijdoccaa
open Go Go.RowKit SL

theorem sum_bounds {cls : List (List Int)} (h : (cls.map fun c => c.length + 1).sum ≤ 1048576) : cls.length ≤ 1048576 ∧ ∀ c ∈ cls, c.length ≤ 1048576 := by
  have key : ∀ (l : List (List Int)) (b : Nat), (l.map fun c => c.length + 1).sum ≤ b → l.length ≤ b ∧ ∀ c ∈ l, c.length ≤ b := by
    intro l
    induction l with
    | nil => intro b _; exact ⟨Nat.zero_le _, fun c hc => by cases hc⟩
    | cons x r ih =>
      intro b hb
      simp only [List.map_cons, List.sum_cons] at hb
      obtain ⟨h1, h2⟩ := ih (b - (x.length + 1)) (by omega)
      refine ⟨by simp only [List.length_cons]; omega, fun c hc => ?_⟩
      rcases List.mem_cons.1 hc with rfl | hc
      · omega
      · have := h2 c hc; omega
  exact key cls _ h
theorem rdF_at {w : World} {b : Nat} {n : Int} {v : Value} {w0 : World} {l : List HP} (h : SL.St w0 (Blk b (.cells #[.int .i64 n, v] 37 (0, 0)) :: l) w) : w.cell? ⟨b, 0, none⟩ = some (.int .i64 n) ∧ w.cell? ⟨b, 1, none⟩ = some v := ⟨h.cell 0, h.cell 1⟩

set_option maxRecDepth 100000 in
set_option maxHeartbeats 8000000 in
theorem checks_walk (W : World) (n : Int) (vf : Value) (cls : List (List Int)) (hn : I64 n) (hr : Ent [Old W] (Rd2 (cInt .i64) vf cls)) (hI : ∀ c ∈ cls, ∀ x ∈ c, I64 x) (hsz : (cls.map fun c => c.length + 1).sum ≤ 1048576) :
    Calls Try.prog 4 #[.agg #[.int .i64 n, vf]] W fun e w' => e = .returned (.bool true) ∧ SL.St W [Old W] w' := by
  obtain ⟨hs1, hs2⟩ := sum_bounds hsz
  obtain ⟨A, c, rfl, -, -⟩ := (hr.use (SL.St.start W)).at
  have h1 := (SL.St.start W).alloc (.cells #[.int .i64 n, .slice A cls.length c] 37)
  have L0 := lend_at _ n (.slice A cls.length c) cls ((Ent.tail hr).use h1) hs1 hs2
  have a0 := h1.cell 0
  have a1 := h1.cell 1
  go_enter Try.func4, Try.ntmps4
  go_wp2_with fail
  refine L0.mono ?_
  rintro e w1 ⟨B1, m1, c1, rfl, hp⟩
  have h2 := hp _ _ h1
  clear hp L0 h1 a0 a1
  generalize W.heap.size = F0 at *
  have h3 := h2.alloc (.cells #[.int .i64 n, .slice B1 m1 c1] 37)
  have C1 := check_walk W _ _ h3 n hn (.slice B1 m1 c1) cls (Ent.tail Ent.lentF) hI
  have C2 := fun (w' : World) (l' : List HP) (h : SL.St W l' w') (q : Ent l' (Rd2 (cInt .i64) (.slice A cls.length c) cls)) => rcheck_walk W w' l' h n hn (.slice A cls.length c) cls q hI
  generalize checkM n cls = C at *
  obtain ⟨pl, er⟩ := C
  simp only at C1 C2
  have b0 := h3.cell 0
  have b1 := h3.cell 1
  clear h2
  go_wp2_with fail
  refine C1.mono ?_
  rintro e w2 ⟨rfl, h4⟩
  have C3 := C2 _ _ h4 (Ent.tail (Ent.tail (Ent.tail hr)))
  have a0 : w2.cell? ⟨F0, 0, none⟩ = some (.int .i64 n) := (h4.pull 2).cell 0
  have a1 : w2.cell? ⟨F0, 1, none⟩ = some (.slice A cls.length c) := (h4.pull 2).cell 1
  clear C1 C2 h3 b0 b1
  generalize w1.heap.size = F1 at *
  go_wp2_with fail
  refine C3.mono ?_
  rintro e w3 ⟨rfl, h5⟩
  clear C3 h4 a0 a1
  have a0 : w3.cell? ⟨F0, 0, none⟩ = some (.int .i64 n) := (h5.pull 2).cell 0
  have a1 : w3.cell? ⟨F0, 1, none⟩ = some (.slice A cls.length c) := (h5.pull 2).cell 1
  have b0 : w3.cell? ⟨F1, 0, none⟩ = some (.int .i64 n) := h5.cell 0
  have b1 : w3.cell? ⟨F1, 1, none⟩ = some (.slice B1 m1 c1) := h5.cell 1
  have WH := whole_walk w3 n (.slice B1 m1 c1) (.slice A cls.length c) cls (St.rdLF (h5.pull 1)) ((Ent.tail (Ent.tail (Ent.tail hr))).use h5)
  have d1 : (er == er) = true := by simp
  have d2 : (pl == pl) = true := by simp
  go_wp2_with (go_at_call 16; refine (no_walk _ _).mono ?_; rintro e w' ⟨rfl, rfl⟩)
  refine WH.mono ?_
  rintro e w' ⟨rfl, q, rfl⟩
  have h6 := SL.St.drewN (((h5.alloc (.cells #[.int .i64 n, .slice B1 m1 c1] 37)).alloc (.cells #[.int .i64 n, .slice A cls.length c] 37)).drop.drop) q
  generalize World.drewN _ q = w4 at h6 ⊢
  clear WH h5 a0 a1 b0 b1
  go_wp2_with fail
  refine (live_walk W w4 _ h6).mono ?_
  rintro e w6 ⟨rfl, h7⟩
  go_wp2_with fail
  go_ret
  exact ⟨rfl, h7.sel [3] 3⟩
end Go.Proofs.Ytnmkdhoijdoccaa
