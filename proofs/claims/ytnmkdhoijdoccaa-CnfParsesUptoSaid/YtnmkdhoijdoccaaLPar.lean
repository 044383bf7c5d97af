/- The law CnfParses. -/
import Derived.Test.YtnmkdhoijdoccaaCnPa
import Derived.Test.YtnmkdhoijdoccaaCnLv
import Derived.Test.YtnmkdhoijdoccaaCnSm
set_option linter.unusedVariables false
set_option linter.unusedSimpArgs false
namespace Go.Proofs.Ytnmkdhoijdoccaa
open Go Go.RowKit SL

set_option maxRecDepth 100000 in
set_option maxHeartbeats 4000000 in
theorem parses_law (W : World) (mx : Int) (hmx : W.cell? ⟨0, 0, none⟩ = some (.int .i64 mx)) (s : ByteArray) (hsz : s.size ≤ 1048576) :
    Calls Try.prog 12 #[.string s] W fun e w' => e = .returned (.bool true) ∧ SL.St W [Old W] w' := by
  have hm : Ent [Old W] (fun w => w.cell? ⟨0, 0, none⟩ = some (.int .i64 mx)) := Ent.old fun w hk => cells_kept hk _ _ hmx
  have P1 := parse_walk W W _ (SL.St.start W) s hsz mx hm
  have P2 := fun (w' : World) (l' : List SL.HP) (h : SL.St W l' w') => rparse_walk W w' l' h s hsz
  generalize parseM s = PM at *
  obtain ⟨n, L, pl, er⟩ := PM
  simp only at P1 P2
  go_enter Try.func12, Try.ntmps12
  go_wp2_with fail
  refine P1.mono ?_
  rintro e w1 ⟨v1, Q1, rfl, h1, r1⟩
  obtain ⟨A1, c1, rfl, -, -⟩ := (r1.use h1).at
  have h2 := h1.alloc (.cells #[.int .i64 n, .slice A1 L.length c1] 37)
  have P3 := P2 _ _ h2
  clear P1 P2
  go_wp2_with fail
  refine P3.mono ?_
  rintro e w2 ⟨v2, Q2, rfl, h3, r2⟩
  obtain ⟨A2, c2, rfl, -, -⟩ := (r2.use h3).at
  clear P3 h2
  generalize w1.heap.size = F1 at *
  have h4 := h3.alloc (.cells #[.int .i64 n, .slice A2 L.length c2] 37)
  have q1 : Ent (Blk w2.heap.size (.cells #[.int .i64 n, .slice A2 L.length c2] 37 (0, 0)) :: Q2 :: Blk F1 (.cells #[.int .i64 n, .slice A1 L.length c1] 37 (0, 0)) :: Q1 :: [Old W]) (Rd2 (cInt .i64) (.slice A1 L.length c1) L) := Ent.tail (Ent.tail (Ent.tail r1))
  have AL := alike_walk W _ _ h4 n n (.slice A1 L.length c1) (.slice A2 L.length c2) L L q1 (Ent.tail r2)
  rw [decide_eq_true ⟨rfl, rfl⟩] at AL
  have f0 : (w2.alloc (.cells #[.int .i64 n, .slice A2 L.length c2] 37)).cell? ⟨F1, 0, none⟩ = some (.int .i64 n) := (h4.pull 2).cell 0
  have f1 : (w2.alloc (.cells #[.int .i64 n, .slice A2 L.length c2] 37)).cell? ⟨F1, 1, none⟩ = some (.slice A1 L.length c1) := (h4.pull 2).cell 1
  have f2 := h4.cell 0
  have f3 := h4.cell 1
  have d1 : (er == er) = true := by simp
  have d2 : (pl == pl) = true := by simp
  clear h3 q1
  go_wp2_with (go_at_call 16; refine (no_walk _ _).mono ?_; rintro e w' ⟨rfl, rfl⟩)
  refine AL.mono ?_
  rintro e w' ⟨rfl, q, rfl⟩
  have h5 := SL.St.drewN (((h4.alloc (.cells #[.int .i64 n, .slice A1 L.length c1] 37)).alloc (.cells #[.int .i64 n, .slice A2 L.length c2] 37)).drop.drop) q
  generalize World.drewN _ q = w4 at h5 ⊢
  clear AL h4 f0 f1 f2 f3
  go_wp2_with fail
  refine (live_walk W w4 _ h5).mono ?_
  rintro e w6 ⟨rfl, h6⟩
  go_wp2_with fail
  go_ret
  exact ⟨rfl, h6.sel [4] 4⟩
end Go.Proofs.Ytnmkdhoijdoccaa
