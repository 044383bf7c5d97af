/- Tseitin's encode. -/
import Derived.Test.YtjeopmiopinlgaaTsF
import Derived.Test.YtjeopmiopinlgaaSL2
set_option linter.unusedVariables false
set_option linter.unusedSimpArgs false
namespace Go.Proofs.Ytjeopmiopinlgaa
open Go Go.RowKit SL

theorem infoClause : (Try.prog.info? 60).map (fun i => (i.zero, i.size, i.bytes)) = some (some (.slice none 0 0), 1, 24) := by kernel_rfl

/-- A formula in memory: its cell, and its clauses. -/
def Form (F n : Nat) (cls : List (List Int)) : HP := fun h => ∃ vf, All [Blk F (.cells #[.int .i64 (n : Nat), vf] 33 (0, 0)), Arr2 (cInt .i64) 3 60 vf cls] h
theorem St.form {w0 w : World} {l : List HP} {F n : Nat} {cls : List (List Int)} (h : SL.St w0 (Form F n cls :: l) w) :
    ∃ vf, SL.St w0 (Blk F (.cells #[.int .i64 (n : Nat), vf] 33 (0, 0)) :: Arr2 (cInt .i64) 3 60 vf cls :: l) w := by
  obtain ⟨vf, h⟩ := SL.St.ex h
  exact ⟨vf, SL.St.flat h⟩
theorem St.mkForm {w0 w : World} {l : List HP} {F n : Nat} {cls : List (List Int)} {vf : Value}
    (h : SL.St w0 (Blk F (.cells #[.int .i64 (n : Nat), vf] 33 (0, 0)) :: Arr2 (cInt .i64) 3 60 vf cls :: l) w) : SL.St w0 (Form F n cls :: l) w :=
  (SL.St.fold (l := [_, _]) h).imp fun _ p => ⟨vf, p⟩
theorem form_len {w0 w : World} {l : List HP} {F n : Nat} {cls : List (List Int)} (h : SL.St w0 (Form F n cls :: l) w) : ∃ A c, w.cell? ⟨F, 1, none⟩ = some (.slice A cls.length c) ∧ w.cell? ⟨F, 0, none⟩ = some (.int .i64 (n : Nat)) := by
  obtain ⟨vf, h⟩ := St.form h
  obtain ⟨A, c, rfl, _⟩ := (h.pull 1).rd2.at
  exact ⟨A, c, h.cell 1, h.cell 0⟩

set_option maxHeartbeats 1000000 in
theorem clause_walk (w0 w : World) (l : List HP) (F n : Nat) (cls : List (List Int)) (vc : Value) (c : List Int) (h : SL.St w0 (Arr (cInt .i64) 3 vc c :: Form F n cls :: l) w) (hl : cls.length ≤ 1073741824) :
    Calls Try.prog 63 #[vc, .pointer (some ⟨F, 0, none⟩)] w fun e w' => e = .returned (.tuple #[]) ∧ SL.St w0 (Form F n (cls ++ [c]) :: l) w' := by
  obtain ⟨vf, h1⟩ := St.form h.swap
  obtain ⟨ss, hsl, h2⟩ := SL.St.arr2 h1.swap
  obtain ⟨Af, cf, rfl, -, -⟩ := h2.rd
  obtain ⟨s, rfl, -⟩ := (h.rd).slc
  have hb : SL.St w0 (Blk F (.cells #[.int .i64 (n : Nat), .slice Af ss.length cf] 33 (0, 0)) :: Arr cSlc 60 (.slice Af ss.length cf) ss :: (Inn (cInt .i64) 3 ss cls ++ Arr (cInt .i64) 3 s.val c :: l)) w := by
    refine SL.St.perm ?_ h2
    have p1 : (Inn (cInt .i64) 3 ss cls ++ Blk F (.cells #[.int .i64 (n : Nat), .slice Af ss.length cf] 33 (0, 0)) :: Arr (cInt .i64) 3 s.val c :: l).Perm (Blk F (.cells #[.int .i64 (n : Nat), .slice Af ss.length cf] 33 (0, 0)) :: (Inn (cInt .i64) 3 ss cls ++ Arr (cInt .i64) 3 s.val c :: l)) := List.perm_middle
    exact (p1.cons _).trans (List.Perm.swap _ _ _)
  clear h h1 h2
  have f1 : w.cell? ⟨F, 1, none⟩ = some (.slice Af ss.length cf) := hb.cell 1
  have f2 := hb.free 1
  obtain ⟨a, b, cc⟩ := s
  have h3 := hb.alloc (.cells #[.slice a b cc] 60)
  have HSL := Lib.hid hsl; clear hsl
  have hsb : ss.length ≤ 1073741824 := by rw [HSL.out]; exact hl
  simp only [Slc.val] at *
  go_enter Try.func63, Try.ntmps63
  go_wp2_with (at_builtin; go_loud (refine wpList_app rfl _ _ rfl Try.underlying31 infoClause rfl (h3.pull 2) rfl (ys := [(a, b, cc)]) rfl (h3.rd_blk (d := cSlc) (ys := [(a, b, cc)]) 1 1 rfl rfl (by decide)) (by simp; omega) (by simp; omega) ?_); intro vo' w7 h7; obtain ⟨An', cn', rfl, _, _⟩ := h7.rd; have g1' : w7.cell? ⟨F, 1, none⟩ = some (.slice Af ss.length cf) := (h7.pull 2).cell 1; have f0' := (h7.pull 2).free 1)
  have h8 := ((h7.pull 2).set 1 (.slice An' (ss ++ [(a, b, cc)]).length cn')).sel [0, 1] 1
  simp only [List.length_append, List.length_singleton] at h8
  generalize w7.setCell _ _ = w8 at h8 ⊢
  go_end0
  refine ⟨rfl, St.mkForm (vf := .slice An' (ss.length + 1) cn') ?_⟩
  refine (SL.St.push2 (s := (a, b, cc)) HSL.out (SL.St.perm ?_ h8)).swap
  refine (List.Perm.swap _ _ _).trans (List.Perm.cons _ ?_)
  refine List.perm_middle.symm.trans ?_
  exact List.Perm.append_left _ (List.Perm.swap _ _ _)
end Go.Proofs.Ytjeopmiopinlgaa
