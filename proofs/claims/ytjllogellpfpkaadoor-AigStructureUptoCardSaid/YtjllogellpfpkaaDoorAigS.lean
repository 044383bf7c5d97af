/- made: a graph of a script. -/
import Derived.Test.YtjllogellpfpkaaDoorAigR0
import Derived.Test.YtjllogellpfpkaaDoorAigF
set_option linter.unusedVariables false
set_option linter.unusedSimpArgs false
namespace Go.Proofs.YtjllogellpfpkaaDoor
open Go Go.RowKit SL

set_option maxRecDepth 100000 in
set_option maxHeartbeats 4000000 in
theorem made2_walk (w0 w : World) (l : List HP) (g : Nat) (h : SL.St w0 (Graph g [(0, 0)] :: l) w) (v : Value) (script : List Mk) (hr : Ent l (Rd cMade v script)) (hin : ∀ s ∈ script, MkIn s) (hl : script.length ≤ 100000000) :
    Calls Tryd.prog 11 #[.pointer (some ⟨g, 0, none⟩), v] w fun e w' => ∃ vo, e = .returned (.tuple #[vo, .bool true]) ∧ SL.St w0 (Arr (cNat .u32) 32 vo (madeM script).2 :: Graph g (madeM script).1 :: l) w' := by
  obtain ⟨A, c, hv, hm, -⟩ := hr.use h.drop
  subst hv
  unfold maxLen at hm
  go_enter Tryd.func11, Tryd.ntmps11
  go_wp2_with fail
  have hs1 := (h.alloc (.cells #[.int .u32 0] 32)).arr_lit (d := cNat .u32) (n := 1) (xs := [0]) rfl rfl (by decide)
  generalize w.heap.size = k0 at hs1 ⊢
  generalize w.alloc _ = w1 at hs1 ⊢
  clear h
  go_loopg [6, 7] script.length (fun k vo i wr => ∃ j : Nat, j ≤ script.length ∧ k = script.length - j ∧ i = .int .i64 j ∧ SL.St w0 (Arr (cNat .u32) 32 vo (madeM (script.take j)).2 :: Graph g (madeM (script.take j)).1 :: l) wr)
  case atStart => exact ⟨0, Nat.zero_le _, rfl, rfl, hs1⟩
  case round =>
    clear hs1
    obtain ⟨j, hj, hgk, rfl, hsr⟩ := hrel
    subst hgk
    by_cases hlt : j < script.length
    · obtain ⟨A', c', hv, -, hc⟩ := hr.use hsr.drop.drop
      obtain ⟨ad, hA', hcell⟩ := hc j script[j] (List.getElem?_eq_getElem hlt)
      obtain rfl : A = some ad := by
        have : A' = A := by injection hv with h1; exact h1.symm
        rw [← this]; exact hA'
      have q0 := hcell 0 _ rfl
      have q1 := hcell 1 _ rfl
      have q2 := hcell 2 _ rfl
      have q3 := hcell 3 _ rfl
      have hok := madeM_ok (script.take j)
      rw [show (script.take j).length = j by simp; omega] at hok
      have HT := Lib.hid (show madeM (script.take (j + 1)) = mkStep (madeM (script.take j)) script[j] by rw [List.take_succ_eq_append_getElem hlt, madeM_snoc])
      have hms := hin _ (List.getElem_mem hlt)
      clear hc hv hA' hcell
      simp only [cMade, Nat.add_zero] at q0 q1 q2 q3
      rw [add_form _ _ _ (by decide)] at q1 q2 q3
      generalize script[j] = s at *
      obtain ⟨K, a, b, c⟩ := s
      obtain ⟨hK, ha, hb, hcc⟩ := hms
      simp only at q0 q1 q2 q3 hK ha hb hcc
      obtain ⟨hK1, hK2⟩ := hK
      obtain ⟨ha1, ha2⟩ := ha
      obtain ⟨hb1, hb2⟩ := hb
      obtain ⟨hc1, hc2⟩ := hcc
      generalize madeM (script.take j) = p at *
      obtain ⟨ns, ls⟩ := p
      obtain ⟨hp0, hps, hpl, hpx⟩ := hok
      simp only at hp0 hps hpl hpx hsr ⊢
      have HPL := Lib.hid hpl; clear hpl
      obtain ⟨Av, cv, rfl, -, -⟩ := hsr.rd
      go_wp2_with fail
      have hs2 := hsr.alloc (.cells #[.int .i64 K, .int .i64 a, .int .i64 b, .int .i64 c] 28)
      generalize wr.heap.size = kk at hs2 ⊢
      generalize World.alloc wr _ = w2 at hs2 ⊢
      clear q0 q1 q2 q3
      have c0 : w2.cell? ⟨kk, 0, none⟩ = some (.int .i64 K) := hs2.cell 0
      have c1 : w2.cell? ⟨kk, 1, none⟩ = some (.int .i64 a) := hs2.cell 1
      have c2 : w2.cell? ⟨kk, 2, none⟩ = some (.int .i64 b) := hs2.cell 2
      have c3 : w2.cell? ⟨kk, 3, none⟩ = some (.int .i64 c) := hs2.cell 3
      have hrd := (hs2.pull 1).rd
      have hlp : 0 < ls.length := by have := HPL.out; omega
      have hpb : ∀ y ∈ ls, y < 4294967296 := fun y hy => by have := hpx y hy; omega
      have hva := pick_walk w2 _ ls hrd hpb hlp (by have := HPL.out; omega) a ha1 ha2
      have hvb := pick_walk w2 _ ls hrd hpb hlp (by have := HPL.out; omega) b hb1 hb2
      have hvc := pick_walk w2 _ ls hrd hpb hlp (by have := HPL.out; omega) c hc1 hc2
      have hxa := pickM_lt hlp hpx a
      have hxb := pickM_lt hlp hpx b
      have hxc := pickM_lt hlp hpx c
      clear hrd hlp hpb
      unfold mkStep at HT
      simp only at HT
      generalize pickM ls a = xa at *
      generalize pickM ls b = xb at *
      generalize pickM ls c = xc at *
      go_wp2_with fail
      refine hva.mono ?_; rintro e w' ⟨rfl, rfl⟩
      go_wp2_with fail
      refine hvb.mono ?_; rintro e w' ⟨rfl, rfl⟩
      go_wp2_with fail
      refine hvc.mono ?_; rintro e w' ⟨rfl, rfl⟩
      clear hva hvb hvc
      have hs3 := hs2.pull 2
      have fin : ∀ (x : Nat) (ns' : Nodes), mk1 ns K xa xb xc = (x, ns') → ∀ (vo : Value) (w7 : World), SL.St w0 (Arr (cNat .u32) 32 vo (ls ++ [x]) :: Graph g ns' :: l) w7 →
          ∃ j' : Nat, j' ≤ script.length ∧ script.length - (j + 1) = script.length - j' ∧ Value.int .i64 ((j : Int) + 1) = .int .i64 j' ∧ SL.St w0 (Arr (cNat .u32) 32 vo (madeM (script.take j')).2 :: Graph g (madeM (script.take j')).1 :: l) w7 := by
        intro x ns' h1 vo w7 h2
        refine ⟨j + 1, by omega, rfl, rfl, ?_⟩
        rw [HT.out, h1]
        exact h2
      have FIN := Lib.hid fin; clear fin
      clear HT hsr
      by_cases h2 : K = 2
      · subst h2
        have hR : mk1 ns 2 xa xb xc = andM ns xa xb := by simp [mk1]
        have hxl := mk1_lt (ns := ns) 2 hp0 hxa hxb hxc
        go_wp2_with fail
        refine (And_walk w0 _ _ g ns hs3 (by omega) hp0 xa xb hxa hxb).mono ?_
        rintro e w4 ⟨rfl, hs4⟩
        rw [hR] at hxl
        generalize andM ns xa xb = r at *
        obtain ⟨x, ns'⟩ := r
        simp only at hs4 hxl ⊢
        have HR := Lib.hid hR; clear hR
        have hsa := hs4.alloc (.cells #[.int .u32 (x : Nat)] 32)
        go_wp2_with (first | (go_at_call 16; refine (no_walk _ 0 (by decide) (by decide)).mono ?_; rintro e w' ⟨rfl, rfl⟩) | (at_builtin; go_loud (refine wpList_app rfl _ _ rfl Tryd.underlying29 infoU32 rfl (hsa.pull 3) rfl (ys := [x]) rfl (hsa.rd_blk (ys := [x]) 1 1 rfl rfl (by decide)) (by have := HPL.out; simp; omega) (by have := HPL.out; simp; omega) ?_); intro vo' w7 hs7))
        go_roundg (script.length - (j + 1))
        case measure => omega
        case rel => exact FIN.out x ns' HR.out _ _ (hs7.sel [0, 2] 2)
      by_cases h3 : K = 3
      · subst h3
        have hR : mk1 ns 3 xa xb xc = orM ns xa xb := by simp [mk1]
        have hxl := mk1_lt (ns := ns) 3 hp0 hxa hxb hxc
        go_wp2_with fail
        refine (Or_walk w0 _ _ g ns hs3 (by omega) hp0 xa xb hxa hxb).mono ?_
        rintro e w4 ⟨rfl, hs4⟩
        rw [hR] at hxl
        generalize orM ns xa xb = r at *
        obtain ⟨x, ns'⟩ := r
        simp only at hs4 hxl ⊢
        have HR := Lib.hid hR; clear hR
        have hsa := hs4.alloc (.cells #[.int .u32 (x : Nat)] 32)
        go_wp2_with (first | (go_at_call 16; refine (no_walk _ 0 (by decide) (by decide)).mono ?_; rintro e w' ⟨rfl, rfl⟩) | (at_builtin; go_loud (refine wpList_app rfl _ _ rfl Tryd.underlying29 infoU32 rfl (hsa.pull 3) rfl (ys := [x]) rfl (hsa.rd_blk (ys := [x]) 1 1 rfl rfl (by decide)) (by have := HPL.out; simp; omega) (by have := HPL.out; simp; omega) ?_); intro vo' w7 hs7))
        go_roundg (script.length - (j + 1))
        case measure => omega
        case rel => exact FIN.out x ns' HR.out _ _ (hs7.sel [0, 2] 2)
      by_cases h4 : K = 4
      · subst h4
        have hR : mk1 ns 4 xa xb xc = xorM ns xa xb := by simp [mk1]
        have hxl := mk1_lt (ns := ns) 4 hp0 hxa hxb hxc
        go_wp2_with fail
        refine (Xor_walk w0 _ _ g ns hs3 (by omega) hp0 xa xb hxa hxb).mono ?_
        rintro e w4 ⟨rfl, hs4⟩
        rw [hR] at hxl
        generalize xorM ns xa xb = r at *
        obtain ⟨x, ns'⟩ := r
        simp only at hs4 hxl ⊢
        have HR := Lib.hid hR; clear hR
        have hsa := hs4.alloc (.cells #[.int .u32 (x : Nat)] 32)
        go_wp2_with (first | (go_at_call 16; refine (no_walk _ 0 (by decide) (by decide)).mono ?_; rintro e w' ⟨rfl, rfl⟩) | (at_builtin; go_loud (refine wpList_app rfl _ _ rfl Tryd.underlying29 infoU32 rfl (hsa.pull 3) rfl (ys := [x]) rfl (hsa.rd_blk (ys := [x]) 1 1 rfl rfl (by decide)) (by have := HPL.out; simp; omega) (by have := HPL.out; simp; omega) ?_); intro vo' w7 hs7))
        go_roundg (script.length - (j + 1))
        case measure => omega
        case rel => exact FIN.out x ns' HR.out _ _ (hs7.sel [0, 2] 2)
      by_cases h5 : K = 5
      · subst h5
        have hR : mk1 ns 5 xa xb xc = muxM ns xc xa xb := by simp [mk1]
        have hxl := mk1_lt (ns := ns) 5 hp0 hxa hxb hxc
        go_wp2_with fail
        refine (Mux_walk w0 _ _ g ns hs3 (by omega) hp0 xc xa xb hxc hxa hxb).mono ?_
        rintro e w4 ⟨rfl, hs4⟩
        rw [hR] at hxl
        generalize muxM ns xc xa xb = r at *
        obtain ⟨x, ns'⟩ := r
        simp only at hs4 hxl ⊢
        have HR := Lib.hid hR; clear hR
        have hsa := hs4.alloc (.cells #[.int .u32 (x : Nat)] 32)
        go_wp2_with (first | (go_at_call 16; refine (no_walk _ 0 (by decide) (by decide)).mono ?_; rintro e w' ⟨rfl, rfl⟩) | (at_builtin; go_loud (refine wpList_app rfl _ _ rfl Tryd.underlying29 infoU32 rfl (hsa.pull 3) rfl (ys := [x]) rfl (hsa.rd_blk (ys := [x]) 1 1 rfl rfl (by decide)) (by have := HPL.out; simp; omega) (by have := HPL.out; simp; omega) ?_); intro vo' w7 hs7))
        go_roundg (script.length - (j + 1))
        case measure => omega
        case rel => exact FIN.out x ns' HR.out _ _ (hs7.sel [0, 2] 2)
      by_cases h6 : K = 6
      · subst h6
        have hR : mk1 ns 6 xa xb xc = allM ns [xa, xb, xc] := by simp [mk1]
        have hxl := mk1_lt (ns := ns) 6 hp0 hxa hxb hxc
        have hs5 := hs3.alloc (.cells #[.int .u32 (xa : Nat), .int .u32 (xb : Nat), .int .u32 (xc : Nat)] 32)
        go_wp2_with fail
        generalize w2.heap.size = kb at hs5 ⊢
        generalize w2.alloc _ = w5 at hs5 ⊢
        refine (All_walk w0 _ _ g ns _ [xa, xb, xc] hs5.swap (fun _ _ h => h.rd_blk (ys := [xa, xb, xc]) 3 3 rfl rfl (by decide)) (by simp; omega) hp0 (by simp [hxa, hxb, hxc])).mono ?_
        rintro e w4 ⟨rfl, hs4⟩
        rw [hR] at hxl
        generalize allM ns [xa, xb, xc] = r at *
        obtain ⟨x, ns'⟩ := r
        simp only at hs4 hxl ⊢
        have HR := Lib.hid hR; clear hR
        have hsa := hs4.alloc (.cells #[.int .u32 (x : Nat)] 32)
        go_wp2_with (first | (go_at_call 16; refine (no_walk _ 0 (by decide) (by decide)).mono ?_; rintro e w' ⟨rfl, rfl⟩) | (at_builtin; go_loud (refine wpList_app rfl _ _ rfl Tryd.underlying29 infoU32 rfl (hsa.pull 4) rfl (ys := [x]) rfl (hsa.rd_blk (ys := [x]) 1 1 rfl rfl (by decide)) (by have := HPL.out; simp; omega) (by have := HPL.out; simp; omega) ?_); intro vo' w7 hs7))
        go_roundg (script.length - (j + 1))
        case measure => omega
        case rel => exact FIN.out x ns' HR.out _ _ (hs7.sel [0, 2] 3)
      have e2 : (K == 2) = false := by simp [h2]
      have e3 : (K == 3) = false := by simp [h3]
      have e4 : (K == 4) = false := by simp [h4]
      have e5 : (K == 5) = false := by simp [h5]
      have e6 : (K == 6) = false := by simp [h6]
      have hR : mk1 ns K xa xb xc = (2 * ns.length, ns ++ [(mark, (inputsOf ns).length)]) := by simp [mk1, h2, h3, h4, h5, h6]
      have hxl := mk1_lt (ns := ns) K hp0 hxa hxb hxc
      clear h2 h3 h4 h5 h6
      rw [hR] at hxl
      go_wp2_with fail
      refine (input_walk w0 _ _ g ns hs3 (by omega)).mono ?_
      rintro e w4 ⟨rfl, hs4⟩
      generalize ns ++ [(mark, (inputsOf ns).length)] = ns1 at *
      generalize 2 * ns.length = x1 at *
      generalize hr2 : (x1, ns1) = r at *
      have hx1 : x1 = r.1 := by rw [← hr2]
      have hn1 : ns1 = r.2 := by rw [← hr2]
      rw [hn1] at hs4
      rw [hx1]
      clear hx1 hn1 hr2
      obtain ⟨x, ns'⟩ := r
      simp only at hs4 hxl ⊢
      have HR := Lib.hid hR; clear hR
      have hsa := hs4.alloc (.cells #[.int .u32 (x : Nat)] 32)
      go_wp2_with (first | (go_at_call 16; refine (no_walk _ 0 (by decide) (by decide)).mono ?_; rintro e w' ⟨rfl, rfl⟩) | (at_builtin; go_loud (refine wpList_app rfl _ _ rfl Tryd.underlying29 infoU32 rfl (hsa.pull 3) rfl (ys := [x]) rfl (hsa.rd_blk (ys := [x]) 1 1 rfl rfl (by decide)) (by have := HPL.out; simp; omega) (by have := HPL.out; simp; omega) ?_); intro vo' w7 hs7))
      go_roundg (script.length - (j + 1))
      case measure => omega
      case rel => exact FIN.out x ns' HR.out _ _ (hs7.sel [0, 2] 2)
    · obtain rfl : j = script.length := by omega
      rw [List.take_length] at hsr
      go_wp2_with fail
      go_ret2
      exact ⟨_, rfl, hsr⟩
end Go.Proofs.YtjllogellpfpkaaDoor
