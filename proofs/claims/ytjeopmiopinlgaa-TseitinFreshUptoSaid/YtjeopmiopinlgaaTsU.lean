/- Of the literals those with these numbers. -/
import Derived.Test.YtjeopmiopinlgaaTsT
set_option linter.unusedVariables false
set_option linter.unusedSimpArgs false
namespace Go.Proofs.Ytjeopmiopinlgaa
open Go Go.RowKit SL

def someM (ls : List Nat) (which : List Int) (odd : List Nat) : List Nat := which.map (pickM ls) ++ odd

set_option maxRecDepth 100000 in
set_option maxHeartbeats 2000000 in
theorem some_walk (w0 w : World) (l : List HP) (h : SL.St w0 l w) (v vw vo : Value) (ls : List Nat) (which : List Int) (odd : List Nat) (hr : Ent l (Rd (cNat .u32) v ls)) (hw : Ent l (Rd (cInt .i64) vw which)) (ho : Ent l (Rd (cNat .u32) vo odd))
    (hx : ∀ x ∈ ls, x < 4294967296) (h0 : 0 < ls.length) (hl : ls.length ≤ 1073741824) (hin : ∀ i ∈ which, In64' i) (hwl : which.length ≤ 1073741824) (hol : odd.length ≤ 1073741824) :
    Calls Try.prog 11 #[v, vw, vo] w fun e w' => ∃ vr, e = .returned vr ∧ SL.St w0 (Arr (cNat .u32) 42 vr (someM ls which odd) :: l) w' := by
  obtain ⟨A, c, hv, hm, -⟩ := hw.use h
  subst hv
  unfold maxLen at hm
  obtain ⟨Al, cl, hv, -, -⟩ := hr.use h
  subst hv
  go_enter Try.func11, Try.ntmps11
  go_wp2_with fail
  go_loopg [7, 8] which.length (fun k vo i wr => ∃ j : Nat, j ≤ which.length ∧ k = which.length - j ∧ i = .int .i64 j ∧ SL.St w0 (Arr (cNat .u32) 42 vo ((which.take j).map (pickM ls)) :: l) wr)
  case atStart => exact ⟨0, Nat.zero_le _, rfl, rfl, h.rows_nil (cNat .u32) 42⟩
  case round =>
    clear h
    obtain ⟨j, hj, hgk, rfl, hsr⟩ := hrel
    subst hgk
    obtain ⟨Ao, co, rfl, -, -⟩ := hsr.rd
    by_cases hlt : j < which.length
    · obtain ⟨A', c', hv, -, hc⟩ := hw.use hsr.drop
      obtain ⟨ad, hA', hcell⟩ := rd_at_int hc j hlt
      obtain rfl : A = some ad := by
        have : A' = A := by injection hv with h1; exact h1.symm
        rw [← this]; exact hA'
      have HT := Lib.hid (show (which.take (j + 1)).map (pickM ls) = (which.take j).map (pickM ls) ++ [pickM ls which[j]] by rw [List.take_succ_eq_append_getElem hlt, List.map_append]; rfl)
      have HLJ := Lib.hid (show ((which.take j).map (pickM ls)).length = j by simp; omega)
      obtain ⟨hi1, hi2⟩ := hin _ (List.getElem_mem hlt)
      clear hc hv hA'
      generalize (which.take j).map (pickM ls) = os at *
      generalize which[j] = i at *
      have hp := pick_walk wr _ ls (hr.use hsr.drop) hx h0 hl i hi1 hi2
      generalize pickM ls i = x at *
      have hsa := hsr.alloc (.cells #[.int .u32 (x : Nat)] 42)
      go_wp2_with (first | (go_at_call 36; refine hp.mono ?_; rintro e w' ⟨rfl, rfl⟩) | (at_builtin; go_loud (refine wpList_app rfl _ _ rfl Try.underlying24 infoU32 rfl (hsa.pull 1) rfl (ys := [x]) rfl (hsa.rd_blk (ys := [x]) 1 1 rfl rfl (by decide)) (by have := HLJ.out; simp; omega) (by have := HLJ.out; simp; omega) ?_); intro vo' w7 hs7))
      go_roundg (which.length - (j + 1))
      case measure => omega
      case rel => exact ⟨j + 1, by omega, rfl, by go_num, by rw [HT.out]; exact hs7.sel [0] 1⟩
    · obtain rfl : j = which.length := by omega
      have he := Lib.hid (show someM ls which odd = (which.take which.length).map (pickM ls) ++ odd by rw [List.take_length]; rfl)
      have hlen := Lib.hid (show ((which.take which.length).map (pickM ls)).length = which.length by simp)
      have hrd := ho.use hsr.drop
      generalize (which.take which.length).map (pickM ls) = os at *
      go_wp2_with (at_builtin; go_loud (refine wpList_app rfl _ _ rfl Try.underlying24 infoU32 rfl hsr rfl (ys := odd) rfl hrd (by have := hlen.out; omega) (by have := hlen.out; omega) ?_); intro vo' w7 hs7)
      go_ret
      refine ⟨_, rfl, ?_⟩
      rw [he.out]
      exact hs7
end Go.Proofs.Ytjeopmiopinlgaa
