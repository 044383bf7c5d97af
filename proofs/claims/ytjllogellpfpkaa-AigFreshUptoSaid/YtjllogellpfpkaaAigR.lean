/- want and made: scripts, in memory. -/
import Derived.Test.YtjllogellpfpkaaAigL
set_option linter.unusedVariables false
set_option linter.unusedSimpArgs false
namespace Go.Proofs.Ytjllogellpfpkaa
open Go Go.RowKit SL

theorem add_form (ad : Addr) (m k : Nat) (hk : k ≠ 0) : ad.add (m + k) = ⟨(ad.add m).block, (ad.add m).off + k, none⟩ := by
  unfold Addr.add
  rw [if_neg (by omega)]
  split
  · rename_i h; subst h; simp
  · simp [Nat.add_assoc]
def cMade : Cd Mk := ⟨4, fun p => [.int .i64 p.1, .int .i64 p.2.1, .int .i64 p.2.2.1, .int .i64 p.2.2.2], fun _ => rfl, by simp [Value.oneCell'], by decide⟩
def In64 (i : Int) : Prop := -9223372036854775808 ≤ i ∧ i ≤ 9223372036854775807
def MkIn (s : Mk) : Prop := In64 s.1 ∧ In64 s.2.1 ∧ In64 s.2.2.1 ∧ In64 s.2.2.2

set_option maxRecDepth 100000 in
set_option maxHeartbeats 4000000 in
theorem want_walk (w0 w : World) (l : List HP) (h : SL.St w0 l w) (v : Value) (script : List Mk) (hr : Ent l (Rd cMade v script)) (hin : ∀ s ∈ script, MkIn s) (hl : script.length ≤ 1073741823)
    (vr : Value) (row : List Bool) (hrr : Ent l (Rd cBool vr row)) (hrl : row.length ≤ 1073741824) :
    Calls Try.prog 15 #[v, vr] w fun e w' => ∃ vo, e = .returned vo ∧ SL.St w0 (Arr cBool 4 vo (wantM script row).1 :: l) w' := by
  obtain ⟨A, c, hv, hm, -⟩ := hr.use h
  obtain ⟨Ar, cr, hvr, hmr, -⟩ := hrr.use h
  subst hv hvr
  unfold maxLen at hm hmr
  go_enter Try.func15, Try.ntmps15
  go_wp2_with fail
  have hs1 := (h.alloc (.cells #[.bool false] 4)).arr_lit (d := cBool) (n := 1) (xs := [false]) rfl rfl (by decide)
  generalize w.heap.size = k0 at hs1 ⊢
  generalize w.alloc _ = w1 at hs1 ⊢
  clear h
  go_loopg [5, 6, 7] script.length (fun k vo n i wr => ∃ j : Nat, j ≤ script.length ∧ k = script.length - j ∧ i = .int .i64 j ∧ n = .int .i64 ((wantM (script.take j) row).2 : Nat) ∧ SL.St w0 (Arr cBool 4 vo (wantM (script.take j) row).1 :: l) wr)
  case atStart => exact ⟨0, Nat.zero_le _, rfl, rfl, rfl, hs1⟩
  case round =>
    clear hs1
    obtain ⟨j, hj, hgk, rfl, rfl, hsr⟩ := hrel
    subst hgk
    by_cases hlt : j < script.length
    · obtain ⟨A', c', hv, -, hc⟩ := hr.use hsr.drop
      obtain ⟨ad, hA', hcell⟩ := hc j script[j] (List.getElem?_eq_getElem hlt)
      obtain rfl : A = some ad := by
        have : A' = A := by injection hv with h1; exact h1.symm
        rw [← this]; exact hA'
      have q0 := hcell 0 _ rfl
      have q1 := hcell 1 _ rfl
      have q2 := hcell 2 _ rfl
      have q3 := hcell 3 _ rfl
      have hwl := wantM_len (script.take j) row
      rw [show (script.take j).length = j by simp; omega] at hwl
      have HT := Lib.hid (show wantM (script.take (j + 1)) row = wantStep row (wantM (script.take j) row) script[j] by rw [List.take_succ_eq_append_getElem hlt, wantM_snoc])
      have hms := hin _ (List.getElem_mem hlt)
      clear hc hv hA' hcell
      simp only [cMade, Nat.add_zero] at q0 q1 q2 q3
      rw [add_form _ _ _ (by decide)] at q1 q2 q3
      generalize script[j] = s at *
      obtain ⟨K, a, b, c⟩ := s
      obtain ⟨hK, ha, hb, hcc⟩ := hms
      simp only at q0 q1 q2 q3 hK ha hb hcc
      obtain ⟨hK1, hK2⟩ := hK
      obtain ⟨ha1, ha2⟩ := ha
      obtain ⟨hb1, hb2⟩ := hb
      obtain ⟨hc1, hc2⟩ := hcc
      generalize wantM (script.take j) row = p at *
      obtain ⟨vs, n⟩ := p
      simp only at hwl hsr ⊢
      obtain ⟨hw1, hw2⟩ := hwl
      have HW1 := Lib.hid hw1; clear hw1
      obtain ⟨Av, cv, rfl, -, -⟩ := hsr.rd
      go_wp2_with fail
      have hs2 := hsr.alloc (.cells #[.int .i64 K, .int .i64 a, .int .i64 b, .int .i64 c] 65)
      generalize wr.heap.size = kk at hs2 ⊢
      generalize World.alloc wr _ = w2 at hs2 ⊢
      clear q0 q1 q2 q3
      have c0 : w2.cell? ⟨kk, 0, none⟩ = some (.int .i64 K) := hs2.cell 0
      have c1 : w2.cell? ⟨kk, 1, none⟩ = some (.int .i64 a) := hs2.cell 1
      have c2 : w2.cell? ⟨kk, 2, none⟩ = some (.int .i64 b) := hs2.cell 2
      have c3 : w2.cell? ⟨kk, 3, none⟩ = some (.int .i64 c) := hs2.cell 3
      have hrd := (hs2.pull 1).rd
      have hva := value_walk w2 _ vs hrd (by have := HW1.out; omega) (by have := HW1.out; omega) a ha1 ha2
      have hvb := value_walk w2 _ vs hrd (by have := HW1.out; omega) (by have := HW1.out; omega) b hb1 hb2
      have hvc := value_walk w2 _ vs hrd (by have := HW1.out; omega) (by have := HW1.out; omega) c hc1 hc2
      clear hrd
      unfold wantStep at HT
      simp only at HT
      generalize valueM vs a = xa at *
      generalize valueM vs b = xb at *
      generalize valueM vs c = xc at *
      go_wp2_with fail
      refine hva.mono ?_; rintro e w' ⟨rfl, rfl⟩
      go_wp2_with fail
      refine hvb.mono ?_; rintro e w' ⟨rfl, rfl⟩
      go_wp2_with fail
      refine hvc.mono ?_; rintro e w' ⟨rfl, rfl⟩
      clear hva hvb hvc
      have fin : ∀ (x : Bool) (n' : Nat), wantM (script.take (j + 1)) row = (vs ++ [x], n') → ∀ (vo : Value) (w7 : World), SL.St w0 (Arr cBool 4 vo (vs ++ [x]) :: Blk (w2.heap.size) (.cells #[.bool x] 4 (0, 0)) :: Blk kk (.cells #[.int .i64 K, .int .i64 a, .int .i64 b, .int .i64 c] 65 (0, 0)) :: l) w7 →
          ∃ j' : Nat, j' ≤ script.length ∧ script.length - (j + 1) = script.length - j' ∧ Value.int .i64 ((j : Int) + 1) = .int .i64 j' ∧ Value.int .i64 (n' : Int) = .int .i64 ((wantM (script.take j') row).2 : Nat) ∧ SL.St w0 (Arr cBool 4 vo (wantM (script.take j') row).1 :: l) w7 := by
        intro x n' h1 vo w7 h2
        refine ⟨j + 1, by omega, rfl, rfl, by rw [h1], ?_⟩
        rw [h1]
        exact h2.sel [0] 2
      have FIN := Lib.hid fin; clear fin
      by_cases h2 : K = 2
      · subst h2
        have hT := HT.out
        simp [want1] at hT
        have HT := Lib.hid hT; clear hT
        cases xa with
        | false =>
          go_wp2_with (first | (at_builtin; go_loud (refine wpList_app rfl _ _ rfl Try.underlying31 infoBool rfl ((hs2.alloc (.cells #[.bool false] 4)).pull 2) rfl (ys := [false]) rfl ((hs2.alloc (.cells #[.bool false] 4)).rd_blk (ys := [false]) 1 1 rfl rfl (by decide)) (by have := HW1.out; simp; omega) (by have := HW1.out; simp; omega) ?_); intro vo' w7 hs7))
          go_roundg (script.length - (j + 1))
          case measure => omega
          case rel => exact FIN.out false _ HT.out _ _ (hs7.sel [0, 1, 2])
        | true =>
          go_wp2_with (first | (at_builtin; go_loud (refine wpList_app rfl _ _ rfl Try.underlying31 infoBool rfl ((hs2.alloc (.cells #[.bool xb] 4)).pull 2) rfl (ys := [xb]) rfl ((hs2.alloc (.cells #[.bool xb] 4)).rd_blk (ys := [xb]) 1 1 rfl rfl (by decide)) (by have := HW1.out; simp; omega) (by have := HW1.out; simp; omega) ?_); intro vo' w7 hs7))
          go_roundg (script.length - (j + 1))
          case measure => omega
          case rel => exact FIN.out xb _ HT.out _ _ (hs7.sel [0, 1, 2])
      by_cases h3 : K = 3
      · subst h3
        have hT := HT.out
        simp [want1] at hT
        have HT := Lib.hid hT; clear hT
        cases xa with
        | false =>
          go_wp2_with (first | (at_builtin; go_loud (refine wpList_app rfl _ _ rfl Try.underlying31 infoBool rfl ((hs2.alloc (.cells #[.bool xb] 4)).pull 2) rfl (ys := [xb]) rfl ((hs2.alloc (.cells #[.bool xb] 4)).rd_blk (ys := [xb]) 1 1 rfl rfl (by decide)) (by have := HW1.out; simp; omega) (by have := HW1.out; simp; omega) ?_); intro vo' w7 hs7))
          go_roundg (script.length - (j + 1))
          case measure => omega
          case rel => exact FIN.out xb _ HT.out _ _ (hs7.sel [0, 1, 2])
        | true =>
          go_wp2_with (first | (at_builtin; go_loud (refine wpList_app rfl _ _ rfl Try.underlying31 infoBool rfl ((hs2.alloc (.cells #[.bool true] 4)).pull 2) rfl (ys := [true]) rfl ((hs2.alloc (.cells #[.bool true] 4)).rd_blk (ys := [true]) 1 1 rfl rfl (by decide)) (by have := HW1.out; simp; omega) (by have := HW1.out; simp; omega) ?_); intro vo' w7 hs7))
          go_roundg (script.length - (j + 1))
          case measure => omega
          case rel => exact FIN.out true _ HT.out _ _ (hs7.sel [0, 1, 2])
      by_cases h4 : K = 4
      · subst h4
        have hT := HT.out
        simp [want1] at hT
        have HT := Lib.hid hT; clear hT
        cases xa with
        | false =>
          cases xb with
          | false =>
            go_wp2_with (first | (at_builtin; go_loud (refine wpList_app rfl _ _ rfl Try.underlying31 infoBool rfl ((hs2.alloc (.cells #[.bool false] 4)).pull 2) rfl (ys := [false]) rfl ((hs2.alloc (.cells #[.bool false] 4)).rd_blk (ys := [false]) 1 1 rfl rfl (by decide)) (by have := HW1.out; simp; omega) (by have := HW1.out; simp; omega) ?_); intro vo' w7 hs7))
            go_roundg (script.length - (j + 1))
            case measure => omega
            case rel => exact FIN.out false _ HT.out _ _ (hs7.sel [0, 1, 2])
          | true =>
            go_wp2_with (first | (at_builtin; go_loud (refine wpList_app rfl _ _ rfl Try.underlying31 infoBool rfl ((hs2.alloc (.cells #[.bool true] 4)).pull 2) rfl (ys := [true]) rfl ((hs2.alloc (.cells #[.bool true] 4)).rd_blk (ys := [true]) 1 1 rfl rfl (by decide)) (by have := HW1.out; simp; omega) (by have := HW1.out; simp; omega) ?_); intro vo' w7 hs7))
            go_roundg (script.length - (j + 1))
            case measure => omega
            case rel => exact FIN.out true _ HT.out _ _ (hs7.sel [0, 1, 2])
        | true =>
          cases xb with
          | false =>
            go_wp2_with (first | (at_builtin; go_loud (refine wpList_app rfl _ _ rfl Try.underlying31 infoBool rfl ((hs2.alloc (.cells #[.bool true] 4)).pull 2) rfl (ys := [true]) rfl ((hs2.alloc (.cells #[.bool true] 4)).rd_blk (ys := [true]) 1 1 rfl rfl (by decide)) (by have := HW1.out; simp; omega) (by have := HW1.out; simp; omega) ?_); intro vo' w7 hs7))
            go_roundg (script.length - (j + 1))
            case measure => omega
            case rel => exact FIN.out true _ HT.out _ _ (hs7.sel [0, 1, 2])
          | true =>
            go_wp2_with (first | (at_builtin; go_loud (refine wpList_app rfl _ _ rfl Try.underlying31 infoBool rfl ((hs2.alloc (.cells #[.bool false] 4)).pull 2) rfl (ys := [false]) rfl ((hs2.alloc (.cells #[.bool false] 4)).rd_blk (ys := [false]) 1 1 rfl rfl (by decide)) (by have := HW1.out; simp; omega) (by have := HW1.out; simp; omega) ?_); intro vo' w7 hs7))
            go_roundg (script.length - (j + 1))
            case measure => omega
            case rel => exact FIN.out false _ HT.out _ _ (hs7.sel [0, 1, 2])
      by_cases h5 : K = 5
      · subst h5
        have hT := HT.out
        simp [want1] at hT
        have HT := Lib.hid hT; clear hT
        cases xc with
        | false =>
          go_wp2_with (first | (at_builtin; go_loud (refine wpList_app rfl _ _ rfl Try.underlying31 infoBool rfl ((hs2.alloc (.cells #[.bool xb] 4)).pull 2) rfl (ys := [xb]) rfl ((hs2.alloc (.cells #[.bool xb] 4)).rd_blk (ys := [xb]) 1 1 rfl rfl (by decide)) (by have := HW1.out; simp; omega) (by have := HW1.out; simp; omega) ?_); intro vo' w7 hs7))
          go_roundg (script.length - (j + 1))
          case measure => omega
          case rel => exact FIN.out xb _ HT.out _ _ (hs7.sel [0, 1, 2])
        | true =>
          go_wp2_with (first | (at_builtin; go_loud (refine wpList_app rfl _ _ rfl Try.underlying31 infoBool rfl ((hs2.alloc (.cells #[.bool xa] 4)).pull 2) rfl (ys := [xa]) rfl ((hs2.alloc (.cells #[.bool xa] 4)).rd_blk (ys := [xa]) 1 1 rfl rfl (by decide)) (by have := HW1.out; simp; omega) (by have := HW1.out; simp; omega) ?_); intro vo' w7 hs7))
          go_roundg (script.length - (j + 1))
          case measure => omega
          case rel => exact FIN.out xa _ HT.out _ _ (hs7.sel [0, 1, 2])
      by_cases h6 : K = 6
      · subst h6
        have hT := HT.out
        simp [want1] at hT
        have HT := Lib.hid hT; clear hT
        cases xa with
        | false =>
          go_wp2_with (first | (at_builtin; go_loud (refine wpList_app rfl _ _ rfl Try.underlying31 infoBool rfl ((hs2.alloc (.cells #[.bool false] 4)).pull 2) rfl (ys := [false]) rfl ((hs2.alloc (.cells #[.bool false] 4)).rd_blk (ys := [false]) 1 1 rfl rfl (by decide)) (by have := HW1.out; simp; omega) (by have := HW1.out; simp; omega) ?_); intro vo' w7 hs7))
          go_roundg (script.length - (j + 1))
          case measure => omega
          case rel => exact FIN.out false _ HT.out _ _ (hs7.sel [0, 1, 2])
        | true =>
          cases xb with
          | false =>
            go_wp2_with (first | (at_builtin; go_loud (refine wpList_app rfl _ _ rfl Try.underlying31 infoBool rfl ((hs2.alloc (.cells #[.bool false] 4)).pull 2) rfl (ys := [false]) rfl ((hs2.alloc (.cells #[.bool false] 4)).rd_blk (ys := [false]) 1 1 rfl rfl (by decide)) (by have := HW1.out; simp; omega) (by have := HW1.out; simp; omega) ?_); intro vo' w7 hs7))
            go_roundg (script.length - (j + 1))
            case measure => omega
            case rel => exact FIN.out false _ HT.out _ _ (hs7.sel [0, 1, 2])
          | true =>
            go_wp2_with (first | (at_builtin; go_loud (refine wpList_app rfl _ _ rfl Try.underlying31 infoBool rfl ((hs2.alloc (.cells #[.bool xc] 4)).pull 2) rfl (ys := [xc]) rfl ((hs2.alloc (.cells #[.bool xc] 4)).rd_blk (ys := [xc]) 1 1 rfl rfl (by decide)) (by have := HW1.out; simp; omega) (by have := HW1.out; simp; omega) ?_); intro vo' w7 hs7))
            go_roundg (script.length - (j + 1))
            case measure => omega
            case rel => exact FIN.out xc _ HT.out _ _ (hs7.sel [0, 1, 2])
      have e2 : (K == 2) = false := by simp [h2]
      have e3 : (K == 3) = false := by simp [h3]
      have e4 : (K == 4) = false := by simp [h4]
      have e5 : (K == 5) = false := by simp [h5]
      have e6 : (K == 6) = false := by simp [h6]
      have hT := HT.out
      simp [want1, h2, h3, h4, h5, h6] at hT
      clear HT h2 h3 h4 h5 h6
      by_cases hn : n < row.length
      · obtain ⟨A', c', hv, -, hc⟩ := hrr.use (hs2.sel [] 2)
        obtain ⟨adr, hA', hcell⟩ := rd_at_bool hc n hn
        obtain rfl : Ar = some adr := by
          have : A' = Ar := by injection hv with h1; exact h1.symm
          rw [← this]; exact hA'
        rw [show row[n]? = some row[n] from List.getElem?_eq_getElem hn] at hT
        simp at hT
        clear hc hv hA'
        generalize row[n] = x at *
        have HT := Lib.hid hT; clear hT
        go_wp2_with (first | (at_builtin; go_loud (refine wpList_app rfl _ _ rfl Try.underlying31 infoBool rfl ((hs2.alloc (.cells #[.bool x] 4)).pull 2) rfl (ys := [x]) rfl ((hs2.alloc (.cells #[.bool x] 4)).rd_blk (ys := [x]) 1 1 rfl rfl (by decide)) (by have := HW1.out; simp; omega) (by have := HW1.out; simp; omega) ?_); intro vo' w7 hs7))
        go_roundg (script.length - (j + 1))
        case measure => omega
        case rel => exact FIN.out x _ HT.out _ _ (hs7.sel [0, 1, 2])
      · rw [List.getElem?_eq_none (by omega)] at hT
        simp at hT
        have HT := Lib.hid hT; clear hT
        go_wp2_with (first | (at_builtin; go_loud (refine wpList_app rfl _ _ rfl Try.underlying31 infoBool rfl ((hs2.alloc (.cells #[.bool false] 4)).pull 2) rfl (ys := [false]) rfl ((hs2.alloc (.cells #[.bool false] 4)).rd_blk (ys := [false]) 1 1 rfl rfl (by decide)) (by have := HW1.out; simp; omega) (by have := HW1.out; simp; omega) ?_); intro vo' w7 hs7))
        go_roundg (script.length - (j + 1))
        case measure => omega
        case rel => exact FIN.out false _ HT.out _ _ (hs7.sel [0, 1, 2])
    · obtain rfl : j = script.length := by omega
      rw [List.take_length] at hsr
      go_wp2_with fail
      go_ret
      exact ⟨_, rfl, hsr⟩
end Go.Proofs.Ytjllogellpfpkaa
