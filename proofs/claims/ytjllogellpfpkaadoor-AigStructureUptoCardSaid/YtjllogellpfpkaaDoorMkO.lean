/- made2: one more literal, of those at hand. -/
import Derived.Test.YtjllogellpfpkaaDoorAigS
import Derived.Test.YtjllogellpfpkaaDoorAigV
set_option linter.unusedVariables false
set_option linter.unusedSimpArgs false
namespace Go.Proofs.YtjllogellpfpkaaDoor
open Go Go.RowKit SL

set_option maxRecDepth 100000 in
set_option maxHeartbeats 4000000 in
theorem mkone_walk (w0 w : World) (l : List HP) (g : Nat) (ns : Nodes) (h : SL.St w0 (Graph g ns :: l) w) (v : Value) (ls : List Nat) (hr : Ent l (Rd (cNat .u32) v ls)) (hp0 : ns.length ≠ 0) (hps : ns.length ≤ 500000000) (hlp : 0 < ls.length) (hll : ls.length ≤ 500000000) (hpx : ∀ y ∈ ls, y < 2 * ns.length) (s : Mk) (hms : MkIn s) (hk : ¬ isIn s.1) :
    Calls Tryd.prog 12 #[.pointer (some ⟨g, 0, none⟩), v, .agg #[.int .i64 s.1, .int .i64 s.2.1, .int .i64 s.2.2.1, .int .i64 s.2.2.2]] w fun e w' =>
      e = .returned (.tuple #[.int .u32 ((mk1 ns s.1 (pickM ls s.2.1) (pickM ls s.2.2.1) (pickM ls s.2.2.2)).1 : Nat), .bool true]) ∧ SL.St w0 (Graph g (mk1 ns s.1 (pickM ls s.2.1) (pickM ls s.2.2.1) (pickM ls s.2.2.2)).2 :: l) w' := by
  obtain ⟨K, a, b, c⟩ := s
  obtain ⟨⟨hK1, hK2⟩, ⟨ha1, ha2⟩, ⟨hb1, hb2⟩, hc1, hc2⟩ := hms
  simp only at hK1 hK2 ha1 ha2 hb1 hb2 hc1 hc2 hk ⊢
  have hpb : ∀ y ∈ ls, y < 4294967296 := fun y hy => by have := hpx y hy; omega
  have hva := fun (w2 : World) (hrd : Rd (cNat .u32) v ls w2) => pick_walk w2 v ls hrd hpb hlp (by omega) a ha1 ha2
  have hvb := fun (w2 : World) (hrd : Rd (cNat .u32) v ls w2) => pick_walk w2 v ls hrd hpb hlp (by omega) b hb1 hb2
  have hvc := fun (w2 : World) (hrd : Rd (cNat .u32) v ls w2) => pick_walk w2 v ls hrd hpb hlp (by omega) c hc1 hc2
  have hxa := pickM_lt hlp hpx a
  have hxb := pickM_lt hlp hpx b
  have hxc := pickM_lt hlp hpx c
  clear hlp hpb
  generalize pickM ls a = xa at *
  generalize pickM ls b = xb at *
  generalize pickM ls c = xc at *
  have hs2 := h.alloc (.cells #[.int .i64 K, .int .i64 a, .int .i64 b, .int .i64 c] 28)
  go_enter Tryd.func12, Tryd.ntmps12
  go_wp2_with fail
  generalize w.heap.size = kk at hs2 ⊢
  generalize World.alloc w _ = w2 at hs2 ⊢
  have c0 : w2.cell? ⟨kk, 0, none⟩ = some (.int .i64 K) := hs2.cell 0
  have c1 : w2.cell? ⟨kk, 1, none⟩ = some (.int .i64 a) := hs2.cell 1
  have c2 : w2.cell? ⟨kk, 2, none⟩ = some (.int .i64 b) := hs2.cell 2
  have c3 : w2.cell? ⟨kk, 3, none⟩ = some (.int .i64 c) := hs2.cell 3
  have hrd := hr.use hs2.drop.drop
  replace hva := hva w2 hrd
  replace hvb := hvb w2 hrd
  replace hvc := hvc w2 hrd
  clear hrd
  refine hva.mono ?_; rintro e w' ⟨rfl, rfl⟩
  go_wp2_with fail
  refine hvb.mono ?_; rintro e w' ⟨rfl, rfl⟩
  go_wp2_with fail
  refine hvc.mono ?_; rintro e w' ⟨rfl, rfl⟩
  clear hva hvb hvc
  have hs3 := hs2.swap
  clear hs2 h
  by_cases h2 : K = 2
  · subst h2
    have hR : mk1 ns 2 xa xb xc = andM ns xa xb := by simp [mk1]
    replace hR := Lib.hid hR
    go_wp2_with fail
    refine (And_walk w0 _ _ g ns hs3 (by omega) hp0 xa xb hxa hxb).mono ?_
    rintro e w4 ⟨rfl, hs4⟩
    generalize andM ns xa xb = r at *
    obtain ⟨x, ns'⟩ := r
    simp only at hs4 ⊢
    go_wp2_with (first | (go_at_call 16; refine (no_walk _ 0 (by decide) (by decide)).mono ?_; rintro e w' ⟨rfl, rfl⟩))
    go_ret2
    rw [hR.out]
    exact ⟨rfl, hs4.sel [0] 1⟩
  by_cases h3 : K = 3
  · subst h3
    have hR : mk1 ns 3 xa xb xc = orM ns xa xb := by simp [mk1]
    replace hR := Lib.hid hR
    go_wp2_with fail
    refine (Or_walk w0 _ _ g ns hs3 (by omega) hp0 xa xb hxa hxb).mono ?_
    rintro e w4 ⟨rfl, hs4⟩
    generalize orM ns xa xb = r at *
    obtain ⟨x, ns'⟩ := r
    simp only at hs4 ⊢
    go_wp2_with (first | (go_at_call 16; refine (no_walk _ 0 (by decide) (by decide)).mono ?_; rintro e w' ⟨rfl, rfl⟩))
    go_ret2
    rw [hR.out]
    exact ⟨rfl, hs4.sel [0] 1⟩
  by_cases h4 : K = 4
  · subst h4
    have hR : mk1 ns 4 xa xb xc = xorM ns xa xb := by simp [mk1]
    replace hR := Lib.hid hR
    go_wp2_with fail
    refine (Xor_walk w0 _ _ g ns hs3 (by omega) hp0 xa xb hxa hxb).mono ?_
    rintro e w4 ⟨rfl, hs4⟩
    generalize xorM ns xa xb = r at *
    obtain ⟨x, ns'⟩ := r
    simp only at hs4 ⊢
    go_wp2_with (first | (go_at_call 16; refine (no_walk _ 0 (by decide) (by decide)).mono ?_; rintro e w' ⟨rfl, rfl⟩))
    go_ret2
    rw [hR.out]
    exact ⟨rfl, hs4.sel [0] 1⟩
  by_cases h5 : K = 5
  · subst h5
    have hR : mk1 ns 5 xa xb xc = muxM ns xc xa xb := by simp [mk1]
    replace hR := Lib.hid hR
    go_wp2_with fail
    refine (Mux_walk w0 _ _ g ns hs3 (by omega) hp0 xc xa xb hxc hxa hxb).mono ?_
    rintro e w4 ⟨rfl, hs4⟩
    generalize muxM ns xc xa xb = r at *
    obtain ⟨x, ns'⟩ := r
    simp only at hs4 ⊢
    go_wp2_with (first | (go_at_call 16; refine (no_walk _ 0 (by decide) (by decide)).mono ?_; rintro e w' ⟨rfl, rfl⟩))
    go_ret2
    rw [hR.out]
    exact ⟨rfl, hs4.sel [0] 1⟩
  have h6 : K = 6 := by
    unfold isIn at hk
    simp only [Decidable.not_not] at hk
    omega
  subst h6
  have hR : mk1 ns 6 xa xb xc = allM ns [xa, xb, xc] := by simp [mk1]
  replace hR := Lib.hid hR
  have hs5 := hs3.alloc (.cells #[.int .u32 (xa : Nat), .int .u32 (xb : Nat), .int .u32 (xc : Nat)] 32)
  go_wp2_with fail
  generalize w2.heap.size = kb at hs5 ⊢
  generalize w2.alloc _ = w5 at hs5 ⊢
  refine (All_walk w0 _ _ g ns _ [xa, xb, xc] hs5.swap (fun _ _ h => h.rd_blk (ys := [xa, xb, xc]) 3 3 rfl rfl (by decide)) (by simp; omega) hp0 (by simp [hxa, hxb, hxc])).mono ?_
  rintro e w4 ⟨rfl, hs4⟩
  generalize allM ns [xa, xb, xc] = r at *
  obtain ⟨x, ns'⟩ := r
  simp only at hs4 ⊢
  go_wp2_with (first | (go_at_call 16; refine (no_walk _ 0 (by decide) (by decide)).mono ?_; rintro e w' ⟨rfl, rfl⟩))
  go_ret2
  rw [hR.out]
  exact ⟨rfl, hs4.sel [0] 2⟩
end Go.Proofs.YtjllogellpfpkaaDoor
