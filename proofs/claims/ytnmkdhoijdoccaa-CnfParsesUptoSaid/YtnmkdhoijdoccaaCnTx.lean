/- The reference's lines and words. -/
import Derived.Test.YtnmkdhoijdoccaaCnNr
import Derived.Test.YtnmkdhoijdoccaaCnI
import Derived.Lib.Strings
set_option linter.unusedVariables false
set_option linter.unusedSimpArgs false
namespace Go.Proofs.Ytnmkdhoijdoccaa
open Go Go.RowKit SL

theorem infoStr : (Try.prog.info? 9).map (fun i => (i.zero, i.size, i.bytes)) = some (some (.string ⟨#[]⟩), 1, 16) := by kernel_rfl
def pieceL (l : List UInt8) (a b : Nat) : List UInt8 := (l.drop a).take (b - a)
theorem ext_piece (s : ByteArray) (a b : Nat) : s.extract a b = mkB (pieceL s.data.toList a b) := Lib.extract_eq s a b
theorem piece_snoc (s : ByteArray) (a j : Nat) (ha : a ≤ j) (h : j < s.size) : pieceL s.data.toList a (j + 1) = pieceL s.data.toList a j ++ [s[j]'h] := by
  unfold pieceL
  have hl : j < s.data.toList.length := by rw [← Lib.size_eq]; exact h
  have e : j + 1 - a = (j - a) + 1 := by omega
  have hd : (s.data.toList.drop a)[j - a]? = some (s[j]'h) := by
    rw [List.getElem?_drop, show a + (j - a) = j by omega, get_data s j h]
  rw [e, List.take_add_one, hd]; rfl
theorem piece_nil (l : List UInt8) (a : Nat) : pieceL l a a = [] := by unfold pieceL; simp
theorem piece_ne (s : ByteArray) (a : Nat) (h : a < s.size) : pieceL s.data.toList a s.size ≠ [] := by
  intro e
  have hl := congrArg List.length e
  unfold pieceL at hl
  rw [List.length_take, List.length_drop, ← Lib.size_eq, List.length_nil] at hl
  omega
theorem ne_ten {b : UInt8} (h : b.toNat ≠ 10) : b ≠ 10 := fun e => h (by rw [e]; rfl)

set_option maxRecDepth 100000 in
set_option maxHeartbeats 4000000 in
theorem rlines_walk (w0 w : World) (l : List HP) (h : SL.St w0 l w) (s : ByteArray) (hs : s.size ≤ 1048576) :
    Calls Try.prog 60 #[.string s] w fun e w' => ∃ v', e = .returned v' ∧ SL.St w0 (Arr cStr 9 v' (linesB s) :: l) w' := by
  have h1 := h.rows_nil cStr 9
  go_enter Try.func60, Try.ntmps60
  go_wp2_with fail
  go_loopg [3, 4, 5] s.size (fun k v f i wr => ∃ (j fr : Nat) (xs : List ByteArray), j ≤ s.size ∧ k = s.size - j ∧ f = .int .i64 fr ∧ i = .int .i64 j ∧ fr ≤ j ∧ xs.length ≤ j ∧ linesB s = xs ++ (lnsL (pieceL s.data.toList fr j) (s.data.toList.drop j)).map mkB ∧ SL.St w0 (Arr cStr 9 v xs :: l) wr)
  case atStart => exact ⟨0, 0, [], Nat.zero_le _, rfl, rfl, rfl, Nat.le_refl _, Nat.le_refl _, by rw [piece_nil, List.drop_zero]; rfl, h1⟩
  case round =>
    clear h1
    obtain ⟨j, fr, xs, hj, hgk, rfl, rfl, hf, hxl, hL, hsr⟩ := hrel
    subst hgk
    have HL := Lib.hid hL; clear hL
    obtain ⟨Ax, cx, rfl, -, -⟩ := hsr.rd
    by_cases hlt : j < s.size
    · have hd := drop_get s j hlt
      by_cases g : (s[j]'hlt).toNat = 10
      · have e1 : ((((s[j]'hlt).toNat : Nat) : Int) == 10) = true := by rw [g]; rfl
        have HL2 := Lib.hid (show linesB s = (xs ++ [s.extract fr j]) ++ (lnsL (pieceL s.data.toList (j + 1) (j + 1)) (s.data.toList.drop (j + 1))).map mkB from by
          rw [HL.out, hd, UInt8.toNat_inj.1 (show (s[j]'hlt).toNat = (10 : UInt8).toNat from g), piece_nil]
          conv => lhs; unfold lnsL
          rw [if_pos rfl, List.map_cons, ext_piece, List.append_assoc]; rfl)
        clear hd HL
        have hb := hsr.alloc (.cells #[.string (s.extract fr j)] 9)
        go_wp2_with (at_builtin; refine wpList_app (d := cStr) (xs := xs) rfl _ _ rfl Try.underlying90 infoStr rfl (hb.pull 1) rfl (ys := ([s.extract fr j] : List ByteArray)) rfl (hb.rd_blk (d := cStr) (ys := ([s.extract fr j] : List ByteArray)) 1 1 rfl rfl (by decide)) (by simp; omega) (by simp; omega) ?_; intro vo w7 h7)
        go_roundg (s.size - (j + 1))
        case measure => omega
        case rel => exact ⟨j + 1, j + 1, _, by omega, rfl, by go_num, by go_num, Nat.le_refl _, by simp; omega, HL2.out, h7.sel [0] 1⟩
      · have e1 : ((((s[j]'hlt).toNat : Nat) : Int) == 10) = false := by rw [beq_eq_false_iff_ne]; omega
        have HL2 := Lib.hid (show linesB s = xs ++ (lnsL (pieceL s.data.toList fr (j + 1)) (s.data.toList.drop (j + 1))).map mkB from by
          rw [HL.out, hd, piece_snoc s fr j hf hlt]
          conv => lhs; unfold lnsL
          rw [if_neg (ne_ten g)])
        clear hd HL
        go_wp2_with fail
        go_roundg (s.size - (j + 1))
        case measure => omega
        case rel => exact ⟨j + 1, fr, xs, by omega, rfl, rfl, by go_num, by omega, by omega, HL2.out, hsr⟩
    · obtain rfl : j = s.size := by omega
      have hd : s.data.toList.drop s.size = [] := List.drop_eq_nil_of_le (by rw [← Lib.size_eq]; exact Nat.le_refl _)
      by_cases g : fr < s.size
      · have HL2 := Lib.hid (show linesB s = xs ++ [s.extract fr s.size] from by
          rw [HL.out, hd]
          unfold lnsL
          rw [if_neg (piece_ne s fr g), ext_piece]; rfl)
        clear hd HL
        have e1 : decide ((fr : Int) < (s.size : Int)) = true := decide_eq_true (by omega)
        have hb := hsr.alloc (.cells #[.string (s.extract fr s.size)] 9)
        go_wp2_with (at_builtin; refine wpList_app (d := cStr) (xs := xs) rfl _ _ rfl Try.underlying90 infoStr rfl (hb.pull 1) rfl (ys := ([s.extract fr s.size] : List ByteArray)) rfl (hb.rd_blk (d := cStr) (ys := ([s.extract fr s.size] : List ByteArray)) 1 1 rfl rfl (by decide)) (by simp; omega) (by simp; omega) ?_; intro vo w7 h7)
        go_ret
        exact ⟨_, rfl, by rw [HL2.out]; exact h7.sel [0] 1⟩
      · obtain rfl : fr = s.size := by omega
        have HL2 := Lib.hid (show linesB s = xs from by
          rw [HL.out, hd, piece_nil]
          simp [lnsL])
        clear hd HL
        go_wp2_with fail
        go_ret
        exact ⟨_, rfl, by rw [HL2.out]; exact hsr⟩
theorem sepB_int (b : UInt8) : sepB b = ((((b.toNat : Nat) : Int) == 32) || (((b.toNat : Nat) : Int) == 9) || (((b.toNat : Nat) : Int) == 13)) := by
  unfold sepB
  have k : ∀ c : UInt8, (b == c) = (((b.toNat : Nat) : Int) == ((c.toNat : Nat) : Int)) := fun c => by
    rw [Bool.eq_iff_iff, beq_iff_eq, beq_iff_eq]
    exact ⟨fun h => by rw [h], fun h => UInt8.toNat_inj.1 (Int.ofNat.inj h)⟩
  rw [k 32, k 9, k 13]; rfl
theorem get_bang (s : ByteArray) (i : Nat) (h : i < s.size) : s.get! i = s[i]'h := by
  have h2 : i < s.data.size := h
  show s.data[i]! = s.data[i]
  exact getElem!_pos s.data i h2

set_option maxRecDepth 100000 in
set_option maxHeartbeats 4000000 in
theorem rwords_walk (w0 w : World) (l : List HP) (h : SL.St w0 l w) (s : ByteArray) (hs : s.size ≤ 1048576) :
    Calls Try.prog 61 #[.string s] w fun e w' => ∃ v', e = .returned v' ∧ SL.St w0 (Arr cStr 9 v' (wordsB s) :: l) w' := by
  have h1 := h.rows_nil cStr 9
  go_enter Try.func61, Try.ntmps61
  go_wp2_with fail
  go_loopg [3, 4, 5] (s.size + 1) (fun k v f i wr => ∃ (j fr : Nat) (xs : List ByteArray), j ≤ s.size + 1 ∧ k = s.size + 1 - j ∧ f = .int .i64 fr ∧ i = .int .i64 j ∧ fr ≤ j ∧ xs.length ≤ j ∧ (wordsB s = xs ++ (if j ≤ s.size then goW s (s.size - j) j fr else []).map (fun x => s.extract x.1 x.2)) ∧ SL.St w0 (Arr cStr 9 v xs :: l) wr)
  case atStart => exact ⟨0, 0, [], Nat.zero_le _, rfl, rfl, rfl, Nat.le_refl _, Nat.le_refl _, by rw [if_pos (Nat.zero_le _), Nat.sub_zero]; rfl, h1⟩
  case round =>
    clear h1
    obtain ⟨j, fr, xs, hj, hgk, rfl, rfl, hf, hxl, hW, hsr⟩ := hrel
    subst hgk
    obtain ⟨Ax, cx, rfl, -, -⟩ := hsr.rd
    by_cases hlt : j < s.size
    · rw [if_pos (by omega)] at hW
      have HW := Lib.hid hW; clear hW
      have e0 : decide ((j : Int) ≤ (s.size : Int)) = true := decide_eq_true (by omega)
      have e5 : ((j : Int) == (s.size : Int)) = false := by rw [beq_eq_false_iff_ne]; omega
      have hgw : goW s (s.size - j) j fr = if sepB (s[j]'hlt) = true then (if fr < j then (fr, j) :: goW s (s.size - (j + 1)) (j + 1) (j + 1) else goW s (s.size - (j + 1)) (j + 1) (j + 1)) else goW s (s.size - (j + 1)) (j + 1) fr := by
        rw [show s.size - j = (s.size - (j + 1)) + 1 by omega, goW, get_bang s j hlt]
      have hsp : sepB (s[j]'hlt) = (((((s[j]'hlt).toNat : Nat) : Int) == 32) || ((((s[j]'hlt).toNat : Nat) : Int) == 9) || ((((s[j]'hlt).toNat : Nat) : Int) == 13)) := sepB_int _
      cases b1 : ((((s[j]'hlt).toNat : Nat) : Int) == 32) with
      | true =>
        have hgo := hgw.trans (if_pos (by rw [hsp, b1]; rfl))
        clear hgw hsp
        by_cases g : fr < j
        · have HW2 := Lib.hid (show wordsB s = (xs ++ [s.extract fr j]) ++ (goW s (s.size - (j + 1)) (j + 1) (j + 1)).map (fun x => s.extract x.1 x.2) from by
            rw [HW.out, hgo, if_pos g, List.append_assoc]; rfl)
          clear HW hgo
          have e4 : decide ((fr : Int) < ((j : Nat) : Int)) = true := decide_eq_true (by omega)
          have hb := hsr.alloc (.cells #[.string (s.extract fr j)] 9)
          go_wp2_with (at_builtin; refine wpList_app (d := cStr) (xs := xs) rfl _ _ rfl Try.underlying90 infoStr rfl (hb.pull 1) rfl (ys := ([s.extract fr j] : List ByteArray)) rfl (hb.rd_blk (d := cStr) (ys := ([s.extract fr j] : List ByteArray)) 1 1 rfl rfl (by decide)) (by simp; omega) (by simp; omega) ?_; intro vo w7 h7)
          go_roundg (s.size + 1 - (j + 1))
          case measure => omega
          case rel => exact ⟨j + 1, j + 1, _, by omega, rfl, by go_num, by go_num, Nat.le_refl _, by simp; omega, by rw [if_pos (by omega)]; exact HW2.out, h7.sel [0] 1⟩
        · have HW2 := Lib.hid (show wordsB s = xs ++ (goW s (s.size - (j + 1)) (j + 1) (j + 1)).map (fun x => s.extract x.1 x.2) from by
            rw [HW.out, hgo, if_neg g])
          clear HW hgo
          have e4 : decide ((fr : Int) < ((j : Nat) : Int)) = false := decide_eq_false (by omega)
          go_wp2_with fail
          go_roundg (s.size + 1 - (j + 1))
          case measure => omega
          case rel => exact ⟨j + 1, j + 1, xs, by omega, rfl, by go_num, by go_num, Nat.le_refl _, by omega, by rw [if_pos (by omega)]; exact HW2.out, hsr⟩
      | false =>
        cases b2 : ((((s[j]'hlt).toNat : Nat) : Int) == 9) with
        | true =>
          have hgo := hgw.trans (if_pos (by rw [hsp, b1, b2]; rfl))
          clear hgw hsp
          by_cases g : fr < j
          · have HW2 := Lib.hid (show wordsB s = (xs ++ [s.extract fr j]) ++ (goW s (s.size - (j + 1)) (j + 1) (j + 1)).map (fun x => s.extract x.1 x.2) from by
              rw [HW.out, hgo, if_pos g, List.append_assoc]; rfl)
            clear HW hgo
            have e4 : decide ((fr : Int) < ((j : Nat) : Int)) = true := decide_eq_true (by omega)
            have hb := hsr.alloc (.cells #[.string (s.extract fr j)] 9)
            go_wp2_with (at_builtin; refine wpList_app (d := cStr) (xs := xs) rfl _ _ rfl Try.underlying90 infoStr rfl (hb.pull 1) rfl (ys := ([s.extract fr j] : List ByteArray)) rfl (hb.rd_blk (d := cStr) (ys := ([s.extract fr j] : List ByteArray)) 1 1 rfl rfl (by decide)) (by simp; omega) (by simp; omega) ?_; intro vo w7 h7)
            go_roundg (s.size + 1 - (j + 1))
            case measure => omega
            case rel => exact ⟨j + 1, j + 1, _, by omega, rfl, by go_num, by go_num, Nat.le_refl _, by simp; omega, by rw [if_pos (by omega)]; exact HW2.out, h7.sel [0] 1⟩
          · have HW2 := Lib.hid (show wordsB s = xs ++ (goW s (s.size - (j + 1)) (j + 1) (j + 1)).map (fun x => s.extract x.1 x.2) from by
              rw [HW.out, hgo, if_neg g])
            clear HW hgo
            have e4 : decide ((fr : Int) < ((j : Nat) : Int)) = false := decide_eq_false (by omega)
            go_wp2_with fail
            go_roundg (s.size + 1 - (j + 1))
            case measure => omega
            case rel => exact ⟨j + 1, j + 1, xs, by omega, rfl, by go_num, by go_num, Nat.le_refl _, by omega, by rw [if_pos (by omega)]; exact HW2.out, hsr⟩
        | false =>
          cases b3 : ((((s[j]'hlt).toNat : Nat) : Int) == 13) with
          | true =>
            have hgo := hgw.trans (if_pos (by rw [hsp, b1, b2, b3]; rfl))
            clear hgw hsp
            by_cases g : fr < j
            · have HW2 := Lib.hid (show wordsB s = (xs ++ [s.extract fr j]) ++ (goW s (s.size - (j + 1)) (j + 1) (j + 1)).map (fun x => s.extract x.1 x.2) from by
                rw [HW.out, hgo, if_pos g, List.append_assoc]; rfl)
              clear HW hgo
              have e4 : decide ((fr : Int) < ((j : Nat) : Int)) = true := decide_eq_true (by omega)
              have hb := hsr.alloc (.cells #[.string (s.extract fr j)] 9)
              go_wp2_with (at_builtin; refine wpList_app (d := cStr) (xs := xs) rfl _ _ rfl Try.underlying90 infoStr rfl (hb.pull 1) rfl (ys := ([s.extract fr j] : List ByteArray)) rfl (hb.rd_blk (d := cStr) (ys := ([s.extract fr j] : List ByteArray)) 1 1 rfl rfl (by decide)) (by simp; omega) (by simp; omega) ?_; intro vo w7 h7)
              go_roundg (s.size + 1 - (j + 1))
              case measure => omega
              case rel => exact ⟨j + 1, j + 1, _, by omega, rfl, by go_num, by go_num, Nat.le_refl _, by simp; omega, by rw [if_pos (by omega)]; exact HW2.out, h7.sel [0] 1⟩
            · have HW2 := Lib.hid (show wordsB s = xs ++ (goW s (s.size - (j + 1)) (j + 1) (j + 1)).map (fun x => s.extract x.1 x.2) from by
                rw [HW.out, hgo, if_neg g])
              clear HW hgo
              have e4 : decide ((fr : Int) < ((j : Nat) : Int)) = false := decide_eq_false (by omega)
              go_wp2_with fail
              go_roundg (s.size + 1 - (j + 1))
              case measure => omega
              case rel => exact ⟨j + 1, j + 1, xs, by omega, rfl, by go_num, by go_num, Nat.le_refl _, by omega, by rw [if_pos (by omega)]; exact HW2.out, hsr⟩
          | false =>
            have HW2 := Lib.hid (show wordsB s = xs ++ (goW s (s.size - (j + 1)) (j + 1) fr).map (fun x => s.extract x.1 x.2) from by
              rw [HW.out, hgw, if_neg (by rw [hsp, b1, b2, b3]; decide)])
            clear hgw hsp HW
            go_wp2_with fail
            go_roundg (s.size + 1 - (j + 1))
            case measure => omega
            case rel => exact ⟨j + 1, fr, xs, by omega, rfl, rfl, by go_num, by omega, by omega, by rw [if_pos (by omega)]; exact HW2.out, hsr⟩
    · by_cases hje : j = s.size
      · subst hje
        rw [if_pos (Nat.le_refl _)] at hW
        have HW := Lib.hid hW; clear hW
        have e0 : decide ((s.size : Int) ≤ (s.size : Int)) = true := decide_eq_true (by omega)
        have e5 : ((s.size : Int) == (s.size : Int)) = true := by simp
        have hgo : goW s (s.size - s.size) s.size fr = if fr < s.size then (fr, s.size) :: [] else [] := by rw [Nat.sub_self, goW]
        by_cases g : fr < s.size
        · have HW2 := Lib.hid (show wordsB s = (xs ++ [s.extract fr s.size]) ++ ([] : List (Nat × Nat)).map (fun x => s.extract x.1 x.2) from by
            rw [HW.out, hgo, if_pos g, List.append_assoc]; rfl)
          clear HW hgo
          have e4 : decide ((fr : Int) < ((s.size : Nat) : Int)) = true := decide_eq_true (by omega)
          have hb := hsr.alloc (.cells #[.string (s.extract fr s.size)] 9)
          go_wp2_with (at_builtin; refine wpList_app (d := cStr) (xs := xs) rfl _ _ rfl Try.underlying90 infoStr rfl (hb.pull 1) rfl (ys := ([s.extract fr s.size] : List ByteArray)) rfl (hb.rd_blk (d := cStr) (ys := ([s.extract fr s.size] : List ByteArray)) 1 1 rfl rfl (by decide)) (by simp; omega) (by simp; omega) ?_; intro vo w7 h7)
          go_roundg (s.size + 1 - (s.size + 1))
          case measure => omega
          case rel => exact ⟨s.size + 1, s.size + 1, _, by omega, rfl, by go_num, by go_num, Nat.le_refl _, by simp; omega, by rw [if_neg (by omega)]; exact HW2.out, h7.sel [0] 1⟩
        · have HW2 := Lib.hid (show wordsB s = xs ++ ([] : List (Nat × Nat)).map (fun x => s.extract x.1 x.2) from by
            rw [HW.out, hgo, if_neg g])
          clear HW hgo
          have e4 : decide ((fr : Int) < ((s.size : Nat) : Int)) = false := decide_eq_false (by omega)
          go_wp2_with fail
          go_roundg (s.size + 1 - (s.size + 1))
          case measure => omega
          case rel => exact ⟨s.size + 1, s.size + 1, xs, by omega, rfl, by go_num, by go_num, Nat.le_refl _, by omega, by rw [if_neg (by omega)]; exact HW2.out, hsr⟩
      · obtain rfl : j = s.size + 1 := by omega
        rw [if_neg (by omega)] at hW
        have HW2 := Lib.hid (show wordsB s = xs from by rw [hW]; simp)
        have e0 : decide (((s.size + 1 : Nat) : Int) ≤ (s.size : Int)) = false := decide_eq_false (by omega)
        have e1 : decide ((s.size : Int) + 1 ≤ (s.size : Int)) = false := decide_eq_false (by omega)
        clear hW
        go_wp2_with fail
        go_ret
        exact ⟨_, rfl, by rw [HW2.out]; exact hsr⟩
end Go.Proofs.Ytnmkdhoijdoccaa
