/- The reference's lines and words. -/
import Derived.Test.YtnmkdhoijdoccaaDoorCnPw
import Derived.Test.YtnmkdhoijdoccaaDoorSL
import Derived.Lib.Strings
import Derived.Test.YtnmkdhoijdoccaaDoorCnI
/- Numbers that are read: the reference's. -/
set_option linter.unusedVariables false
set_option linter.unusedSimpArgs false
namespace Go.Proofs.YtnmkdhoijdoccaaDoor
open Go Go.RowKit SL

theorem get_data (s : ByteArray) (i : Nat) (h : i < s.size) : s.data.toList[i]? = some (s[i]'h) := by
  have h2 : i < s.data.toList.length := by rw [← Lib.size_eq]; exact h
  rw [List.getElem?_eq_getElem h2]
  rfl
theorem head_get (s : ByteArray) (h : 0 < s.size) : s.data.toList.head? = some (s[0]'h) := by
  rw [← get_data s 0 h]
  cases s.data.toList <;> rfl
theorem drop_get (s : ByteArray) (i : Nat) (h : i < s.size) : s.data.toList.drop i = (s[i]'h) :: s.data.toList.drop (i + 1) := by
  have h2 : i < s.data.toList.length := by rw [← Lib.size_eq]; exact h
  rw [List.drop_eq_getElem_cons h2]
  rfl
theorem pre_get (s : ByteArray) (h : 0 < s.size) : Lib.hasPrefix s.data.toList [45] = ((s[0]'h) == 45) := by
  have := drop_get s 0 h
  rw [List.drop_zero] at this
  unfold Lib.hasPrefix
  rw [this]
  simp [List.isPrefixOf, Bool.beq_comm]
theorem pre_none (s : ByteArray) (h : ¬ 0 < s.size) : Lib.hasPrefix s.data.toList [45] = false := by
  have : s.data.toList = [] := List.eq_nil_of_length_eq_zero (by rw [← Lib.size_eq]; omega)
  rw [this]; rfl
theorem trim_get (s : ByteArray) (h : Lib.hasPrefix s.data.toList [45] = true) : Lib.trimPrefix s.data.toList [45] = (s.extract 1 s.size).data.toList := by
  unfold Lib.trimPrefix
  rw [if_pos h, Lib.extract_data]
  rw [List.take_of_length_le (by rw [List.length_drop, ← Lib.size_eq]; exact Nat.le_refl _)]
  rfl

end Go.Proofs.YtnmkdhoijdoccaaDoor
set_option linter.unusedVariables false
set_option linter.unusedSimpArgs false
namespace Go.Proofs.YtnmkdhoijdoccaaDoor
open Go Go.RowKit SL

theorem infoStr : (Tryd.prog.info? 9).map (fun i => (i.zero, i.size, i.bytes)) = some (some (.string ⟨#[]⟩), 1, 16) := by kernel_rfl
def pieceL (l : List UInt8) (a b : Nat) : List UInt8 := (l.drop a).take (b - a)
theorem ext_piece (s : ByteArray) (a b : Nat) : s.extract a b = mkB (pieceL s.data.toList a b) := Lib.extract_eq s a b
theorem piece_snoc (s : ByteArray) (a j : Nat) (ha : a ≤ j) (h : j < s.size) : pieceL s.data.toList a (j + 1) = pieceL s.data.toList a j ++ [s[j]'h] := by
  unfold pieceL
  have hl : j < s.data.toList.length := by rw [← Lib.size_eq]; exact h
  have e : j + 1 - a = (j - a) + 1 := by omega
  have hd : (s.data.toList.drop a)[j - a]? = some (s[j]'h) := by
    rw [List.getElem?_drop, show a + (j - a) = j by omega, get_data s j h]
  rw [e, List.take_add_one, hd]; rfl
theorem piece_nil (l : List UInt8) (a : Nat) : pieceL l a a = [] := by unfold pieceL; simp
theorem piece_ne (s : ByteArray) (a : Nat) (h : a < s.size) : pieceL s.data.toList a s.size ≠ [] := by
  intro e
  have hl := congrArg List.length e
  unfold pieceL at hl
  rw [List.length_take, List.length_drop, ← Lib.size_eq, List.length_nil] at hl
  omega
theorem ne_ten {b : UInt8} (h : b.toNat ≠ 10) : b ≠ 10 := fun e => h (by rw [e]; rfl)

theorem sepB_int (b : UInt8) : sepB b = ((((b.toNat : Nat) : Int) == 32) || (((b.toNat : Nat) : Int) == 9) || (((b.toNat : Nat) : Int) == 13)) := by
  unfold sepB
  have k : ∀ c : UInt8, (b == c) = (((b.toNat : Nat) : Int) == ((c.toNat : Nat) : Int)) := fun c => by
    rw [Bool.eq_iff_iff, beq_iff_eq, beq_iff_eq]
    exact ⟨fun h => by rw [h], fun h => UInt8.toNat_inj.1 (Int.ofNat.inj h)⟩
  rw [k 32, k 9, k 13]; rfl
theorem get_bang (s : ByteArray) (i : Nat) (h : i < s.size) : s.get! i = s[i]'h := by
  have h2 : i < s.data.size := h
  show s.data[i]! = s.data[i]
  exact getElem!_pos s.data i h2

end Go.Proofs.YtnmkdhoijdoccaaDoor
