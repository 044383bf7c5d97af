/- The builder's calls as parts of memory. -/
import Derived.Test.YtnmkdhoijdoccaaDoorCnKy
import Derived.Test.YtnmkdhoijdoccaaDoorKyPr
import Derived.Lib.FrozenHead2
import Derived.Laws.Externs
import Derived.CellFam
set_option linter.unusedVariables false
set_option linter.unusedSimpArgs false
namespace Go.Proofs.YtnmkdhoijdoccaaDoor
open Go Go.RowKit Go.Sort Go.Lib SL

/-! ### The builder: this dump has copyCheck without its panic, so its walks stand here -/
theorem builderX : Builder.Extra Tryd.prog lays169_ren := Builder_Extra_169
set_option maxHeartbeats 1000000 in
set_option maxRecDepth 100000 in
theorem copy_walk (B b : Nat) (bs : List Value) (w : World) (h : Lib.IsBuilderF 78 5 B b bs w) :
    Calls Tryd.prog 63 #[.pointer (some ⟨b, 0, none⟩)] w fun e w' => e = .returned (.tuple #[]) ∧ Lib.BuilderAtF 78 5 B b (.pointer (some ⟨b, 0, none⟩)) bs w' ∧ Below B w w' ∧ Lib.OthersKept 5 (some b) w w' := by
  rcases h with h | h
  · have c0 := h.cell0
    have hsh := h.shape
    have hf := h.frozen0
    obtain ⟨j, hj, hjs⟩ := Option.map_eq_some_iff.1 builderX.sizeBuilder
    go_enter Tryd.func63, Tryd.ntmps63
    go_wp2_with fail
    rw [Lib.run_to_unsafe w ⟨b, 0, none⟩ Tryd.underlying75 Tryd.underlying121 hj (by rw [hjs]; decide) hsh (Nat.zero_lt_succ 1)]
    simp only [Result.andThen]
    rw [Oper.upon_value]
    go_wp2_with fail
    rw [run_callFunc_extern Tryd.func72 (by kernel_rfl) (by kernel_rfl) (by kernel_rfl) (e := Extern.AbiNoEscape.same) (by kernel_rfl)]
    rw [Lib.run_noEscape]
    simp only [Result.andThen]
    rw [Oper.upon_value]
    go_wp2_with fail
    rw [Lib.run_from_unsafe w ⟨b, 0, none⟩ Tryd.underlying121 Tryd.underlying75 hj hsh builderX.liesBuilder]
    simp only [Result.andThen]
    rw [Oper.upon_value]
    go_wp2_with fail
    go_end0
    exact ⟨rfl, h.used _, (Below.refl B w).setCell (p := ⟨b, 0, none⟩) h.1 _, (Lib.OthersKept.refl _ _ w).setCell ⟨b, 0, none⟩ rfl _⟩
  · have c0 := h.cell0
    obtain ⟨j, hj, hjs⟩ := Option.map_eq_some_iff.1 builderX.sizeBuilder
    go_enter Tryd.func63, Tryd.ntmps63
    go_wp2_with fail
    rw [Lib.run_neq_ptr_same w _ Tryd.underlying75 hj]
    go_wp2_with fail
    go_end0
    exact ⟨rfl, h, Below.refl B _, Lib.OthersKept.refl _ _ _⟩
set_option maxHeartbeats 2000000 in
set_option maxRecDepth 100000 in
theorem wstring_walk (B b : Nat) (bs : List Value) (s : ByteArray) (w : World) (h : Lib.IsBuilderF 78 5 B b bs w) (hlen : bs.length + s.size ≤ 140737488355328) (hBw : B ≤ w.heap.size) :
    Calls Tryd.prog 40 #[.pointer (some ⟨b, 0, none⟩), .string s] w fun e w' => e = .returned (.tuple #[.int .i64 s.size, .nilIface]) ∧ Lib.BuilderAtF 78 5 B b (.pointer (some ⟨b, 0, none⟩)) (bs ++ Lib.strCells s) w' ∧ Below B w w' ∧ Lib.OthersKept 5 (some b) w w' := by
  obtain ⟨i0, hi, hz0, hz1, hz2⟩ := info_parts builderX.infoByte
  go_enter Tryd.func40, Tryd.ntmps40
  go_wp2_with fail
  refine (copy_walk B b bs _ h).mono ?_
  rintro e w1 ⟨rfl, ⟨hB, v, hbk, hown, hne⟩, hb1, hk1⟩
  have hlt : b < w1.heap.size := (Array.getElem?_eq_some_iff.1 hbk).1
  have c1 : w1.cell? ⟨b, 1, none⟩ = some v := by rw [Lib.cell_of_heap hbk]; rfl
  have hsz := hb1.size
  go_wp2_with (at_builtin; refine Lib.wpList_append_own_stringF _ rfl _ _ 76 9 rfl B 5 i0 Tryd.underlying76 Tryd.underlying9 hi hz0 hz1 hz2 _ _ _ rfl hown s rfl ?c3 ?c4 ?c5 ?_)
  case c3 => unfold maxLen; omega
  case c4 => omega
  case c5 => omega
  intro v' w2 hown' hgrow _
  have hb2 : w2.heap[b]? = some (.cells #[.pointer (some ⟨b, 0, none⟩), v] 78 (0, 0)) := by
    rw [hgrow.block b hlt (fun e => hne e.symm)]
    exact hbk
  have d1 : w2.cell? ⟨b, 1, none⟩ = some v := by rw [Lib.cell_of_heap hb2]; rfl
  have f1 : w2.frozen? ⟨b, 1, none⟩ = false := Lib.frozen_of_heap hb2 1
  obtain ⟨ao, n', cap, rfl⟩ : ∃ ao n' cap, v' = .slice ao n' cap := by
    rcases hown'.2 with ⟨hv, _⟩ | ⟨g, cap, cur, fz, hv, _⟩
    · exact ⟨_, _, _, hv⟩
    · exact ⟨_, _, _, hv⟩
  go_wp2_with fail
  go_ret2
  refine ⟨rfl, Lib.BuilderAtF.put hB hb2 (by simpa [Lib.strCells_length] using hown') builderX.neB5, ?_, (hk1.grown hgrow (Lib.ownsRowF_kind hown)).setCell ⟨b, 1, none⟩ rfl _⟩
  exact (hb1.grown hgrow (by omega) (fun k hk => (hown.lt k hk).1)).setCell (p := ⟨b, 1, none⟩) hB _

/-- The builder in block b, its bytes. -/
def BldB (B b : Nat) (bs : List UInt8) : HP := Bld 78 5 B b (Lib.byteCells bs)
section
variable {w0 w : World} {l : List HP} {B b : Nat} {bs : List UInt8}
theorem bldB_le (h : SL.St w0 (BldB B b bs :: l) w) : B ≤ w.heap.size := by
  obtain ⟨k, ⟨hB, p, v, hp, hb, _⟩, s⟩ := h.head
  have := hl_lt (s _ _ hb); omega
theorem writeString_walk (h : SL.St w0 (BldB B b bs :: l) w) (hs : ∀ P ∈ l, SL.Safe B 5 P) (s : ByteArray) (hlen : bs.length + s.size ≤ 140737488355328) :
    Calls Tryd.prog 40 #[.pointer (some ⟨b, 0, none⟩), .string s] w fun e w' => e = .returned (.tuple #[.int .i64 s.size, .nilIface]) ∧ SL.St w0 (BldB B b (bs ++ s.data.toList) :: l) w' := by
  refine (wstring_walk B b (Lib.byteCells bs) s w h.bld (by rw [Lib.byteCells_length]; exact hlen) (bldB_le h)).mono ?_
  rintro e w' ⟨rfl, h1, h2, h3⟩
  refine ⟨rfl, ?_⟩
  have := h.wrote hs (bs' := Lib.byteCells (bs ++ s.data.toList)) (.inr (by rw [Lib.byteCells_append]; exact h1)) h2 h3 (by decide)
  exact this
theorem string_walk (h : SL.St w0 (BldB B b bs :: l) w) (hs : ∀ P ∈ l, SL.Safe B 5 P) (h0 : bs ≠ []) :
    Calls Tryd.prog 43 #[.pointer (some ⟨b, 0, none⟩)] w fun e w' => e = .returned (.string ⟨bs.toArray⟩) ∧ SL.St w0 (BldB B b bs :: l) w' := by
  refine (Builder_String_k B b bs w h.bld h0).mono ?_
  rintro e w' ⟨rfl, h1, h2, h3⟩
  exact ⟨rfl, h.wrote hs h1 h2 h3 (by decide)⟩
end
end Go.Proofs.YtnmkdhoijdoccaaDoor
