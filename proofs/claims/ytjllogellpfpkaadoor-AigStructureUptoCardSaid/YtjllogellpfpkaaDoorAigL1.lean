/- Laying a graph's cone into another: plain, and its small walks. -/
import Derived.Test.YtjllogellpfpkaaDoorAigT
import Derived.Test.YtjllogellpfpkaaDoorAigX
import Derived.Lib.SliceRun
import Derived.Recover
set_option linter.unusedVariables false
set_option linter.unusedSimpArgs false
namespace Go.Proofs.YtjllogellpfpkaaDoor
open Go Go.RowKit SL

/-- The parts but the first stay. -/
def Keep (rest : List HP) (w : World) : Prop := ∃ w0 P, SL.St w0 (P :: rest) w

def mvL (to : List Nat) (x : Nat) : Nat := if x % 2 = 1 then notL (to.getD (x / 2) 0) else to.getD (x / 2) 0
def layStep (hs : Nodes) (ins : List Nat) (p : List Nat × Nodes) (n : Nat) : List Nat × Nodes :=
  if (nd hs n).1 = mark then (p.1.set n (ins.getD (nd hs n).2 0), p.2)
  else (p.1.set n (andM p.2 (mvL p.1 (nd hs n).1) (mvL p.1 (nd hs n).2)).1, (andM p.2 (mvL p.1 (nd hs n).1) (mvL p.1 (nd hs n).2)).2)
def layOver (hs : Nodes) (ins : List Nat) (ns : Nodes) (l : List Nat) : List Nat × Nodes := l.foldl (layStep hs ins) (List.replicate hs.length 0, ns)
def layM (ns hs : Nodes) (ins roots : List Nat) : List Nat × Nodes :=
  (roots.map (mvL (layOver hs ins ns (coneM hs roots)).1), (layOver hs ins ns (coneM hs roots)).2)
theorem layOver_snoc (hs : Nodes) (ins : List Nat) (ns : Nodes) (l : List Nat) (n : Nat) : layOver hs ins ns (l ++ [n]) = layStep hs ins (layOver hs ins ns l) n := by simp [layOver]

/-- What holds of the literals laid so far. -/
structure LayOk (hs : Nodes) (ns : Nodes) (k : Nat) (p : List Nat × Nodes) : Prop where
  len : p.1.length = hs.length
  lits : ∀ y ∈ p.1, y < 2 * p.2.length
  pos : p.2.length ≠ 0
  le : p.2.length ≤ ns.length + k
theorem mvL_lt {to : List Nat} {n x : Nat} (h : ∀ y ∈ to, y < 2 * n) (hx : x / 2 < to.length) : mvL to x < 2 * n := by
  have hg : to.getD (x / 2) 0 = to[x / 2] := by simp [List.getD_eq_getElem?_getD, hx]
  have := h _ (List.getElem_mem hx)
  unfold mvL
  rw [hg]
  split
  · exact notL_lt2 this
  · exact this
theorem LayOk.step {hs ns : Nodes} {ins : List Nat} {k n : Nat} {p : List Nat × Nodes} (h : LayOk hs ns k p) (hg : GoodG hs) (hn : n < hs.length) (hn0 : n ≠ 0) (hi : ∀ y ∈ ins, y < 2 * ns.length) (hil : ins.length = (inputsOf hs).length) (hns : ns.length ≤ p.2.length) :
    LayOk hs ns (k + 1) (layStep hs ins p n) ∧ ns.length ≤ (layStep hs ins p n).2.length := by
  have hl := h.len
  have hp := h.pos
  have hle := h.le
  by_cases hm : (nd hs n).1 = mark
  · have hng : isGate hs n = false := by rw [isGate_nd, hm]; simp
    have hlt := hg.ins n hn hn0 hng
    have hgi : ins.getD (nd hs n).2 0 = ins[(nd hs n).2]'(by omega) := by simp [List.getD_eq_getElem?_getD, hil, hlt]
    have hy := hi _ (List.getElem_mem (show (nd hs n).2 < ins.length by omega))
    unfold layStep
    rw [if_pos hm, hgi]
    refine ⟨⟨by simp [hl], fun y hy2 => ?_, hp, by simp only; omega⟩, hns⟩
    rcases List.mem_or_eq_of_mem_set hy2 with h1 | h1
    · exact h.lits y h1
    · rw [h1]; simp only; omega
  · have hgt : isGate hs n = true := by rw [isGate_nd]; simp [hn0, hm]
    have hgn := hg.gate n hn hgt
    have a1 := mvL_lt (x := (nd hs n).1) h.lits (by omega)
    have a2 := mvL_lt (x := (nd hs n).2) h.lits (by omega)
    have k1 := andM_lt p.2 (mvL p.1 (nd hs n).1) (mvL p.1 (nd hs n).2) hp a1 a2
    unfold layStep
    rw [if_neg hm]
    generalize andM p.2 (mvL p.1 (nd hs n).1) (mvL p.1 (nd hs n).2) = r at *
    refine ⟨⟨by simp [hl], fun y hy2 => ?_, by simp only; omega, by simp only; omega⟩, by simp only; omega⟩
    rcases List.mem_or_eq_of_mem_set hy2 with h1 | h1
    · have := h.lits y h1; simp only; omega
    · rw [h1]; exact k1.1
theorem layOver_ok {hs ns : Nodes} {ins K : List Nat} (hg : GoodG hs) (hL : Lined hs K) (hp : ns.length ≠ 0) (hi : ∀ y ∈ ins, y < 2 * ns.length) (hil : ins.length = (inputsOf hs).length) :
    LayOk hs ns K.length (layOver hs ins ns K) ∧ ns.length ≤ (layOver hs ins ns K).2.length := by
  induction hL with
  | nil => exact ⟨⟨by simp [layOver], fun y hy => by unfold layOver at hy; simp only [List.foldl_nil] at hy ⊢; rw [(List.mem_replicate.1 hy).2]; show 0 < 2 * ns.length; omega, hp, Nat.le_refl _⟩, Nat.le_refl _⟩
  | @snoc l n hl ha ih =>
    rw [layOver_snoc, List.length_append]
    exact ih.1.step hg ha.2.1 ha.1 hi hil ih.2

set_option maxHeartbeats 400000 in
theorem lay1_walk (w : World) (kt : Nat) (v : Value) (to : List Nat) (hk : w.cell? ⟨kt, 0, none⟩ = some v) (hr : Rd (cNat .u32) v to w) (x : Nat) (hx : x / 2 < to.length) (hl : to.length ≤ 1073741824) (hb : ∀ y ∈ to, y < 4294967296) :
    Calls Tryd.prog 50 #[.int .u32 (x : Nat), .pointer (some ⟨kt, 0, none⟩)] w fun e w' => w = w' ∧ e = .returned (.int .u32 (mvL to x : Nat)) := by
  obtain ⟨A, c, rfl, -, hc⟩ := hr
  obtain ⟨ad, rfl, hcell⟩ := rd_at hc (x / 2) hx
  have hq : (x : Int) / 2 = ((x / 2 : Nat) : Int) := by omega
  have HW := Lib.hid (show mvL to x = if x % 2 = 1 then notL to[x / 2] else to[x / 2] by
    unfold mvL; rw [List.getD_eq_getElem?_getD, List.getElem?_eq_getElem hx]; rfl)
  have hzb := hb _ (List.getElem_mem hx)
  have hand : bits .and .u32 (x : Int) 1 = ((x % 2 : Nat) : Int) := by
    have := u32_and_nat x 1 (by omega) (by omega)
    rw [Nat.and_one_is_mod] at this
    exact this
  clear hc hb
  generalize hqq : x / 2 = q at *
  generalize hz : to[q] = z at *
  generalize mvL to x = W at *
  clear hz hqq
  generalize hrr : x % 2 = r at *
  have HR := Lib.hid hrr; clear hrr
  have hr2 : r = 0 ∨ r = 1 := by have := HR.out; omega
  rcases hr2 with rfl | rfl
  · have hx0 : bits .xor .u32 (z : Int) 0 = (z : Int) := by
      have := u32_xor_nat z 0 hzb (by omega)
      rw [Nat.xor_zero] at this
      exact this
    go_enter Tryd.func50, Tryd.ntmps50
    go_wp2_with fail
    go_ret
    have h3 := HW.out; rw [if_neg (by decide)] at h3; rw [h3]
    exact ⟨rfl, rfl⟩
  · have hx1 := xor1_u32 z hzb
    go_enter Tryd.func50, Tryd.ntmps50
    go_wp2_with fail
    go_ret
    have h3 := HW.out; rw [if_pos trivial] at h3; rw [h3]
    exact ⟨rfl, rfl⟩

theorem clone_walk (w0 w : World) (l : List HP) (h : SL.St w0 l w) (v : Value) (xs : List (Nat × Nat)) (hr : Ent l (Rd cGate v xs)) (hx : 0 < xs.length) (hl : xs.length ≤ 1073741824) :
    Calls Tryd.prog 49 #[v] w fun e w' => ∃ vo, e = .returned vo ∧ SL.St w0 (Arr cGate 75 vo xs :: l) w' := by
  obtain ⟨A, c, rfl, -, hc⟩ := hr.use h
  obtain ⟨ad, rfl, -⟩ := hc 0 xs[0] (List.getElem?_eq_getElem hx)
  clear hc
  have he : ∀ w : World, (binOp .eql 85 (.slice (some ad) xs.length c) (.slice none 0 0)).run Tryd.prog w = .ok (.bool false) w := fun w => by
    have := Go.Lib.run_eql_slice_nil (P := Tryd.prog) w 85 75 (some ad) xs.length c 0 0 Tryd.underlying85
    simpa using this
  have hsa := (h.alloc (.cells #[] 75))
  go_enter Tryd.func49, Tryd.ntmps49
  go_wp2_with (first | (at_builtin; go_loud (refine wpList_app rfl _ _ rfl Tryd.underlying85 infoGate rfl (hsa.arr_lit (d := cGate) (n := 0) (xs := []) rfl rfl (by decide)) rfl (ys := xs) rfl (hr.use hsa.drop) (by simp; omega) (by simp; omega) ?_); intro v' w1 hs1))
  go_ret
  exact ⟨_, rfl, hs1⟩

/-- What is made by a function that also turns other parts. -/
theorem made_turns (w0 w : World) (l l' : List HP) (g : Nat) (ns ns' : List (Nat × Nat)) (x : Nat) (N : Nat) (caps : Array Value) (h : SL.St w0 (Graph g ns :: l) w)
    (hN : ∀ w : World, (callFunc N caps).run Tryd.prog w = .ok (.enter N caps) w)
    (hdo : ∀ (l1 : List HP) (w1 : World), SL.St w0 (Graph g ns :: (l1 ++ l)) w1 → Calls Tryd.prog N caps w1 fun e w' => e = .returned (.int .u32 (x : Nat)) ∧ SL.St w0 (Graph g ns' :: (l1 ++ l')) w') :
    Calls Tryd.prog 51 #[.pointer (some ⟨g, 0, none⟩), .func (.func N) #[] caps] w fun e w' =>
      e = .returned (.tuple #[.int .u32 (x : Nat), .int .i64 0]) ∧ SL.St w0 (Graph g ns' :: l') w' := by
  obtain ⟨vn, vi, bm, hs⟩ := St.graph h
  obtain ⟨An, cn, rfl, hmn, hrn⟩ := (hs.pull 1).rd
  have hg0 : w.cell? ⟨g, 0, none⟩ = some (.slice An ns.length cn) := hs.cell 0
  obtain ⟨-, -, ra, rb, -⟩ := allocs hg0
  have hmf : ∀ (fn : Fn) (first cap : Array Value) (w : World), (Instr.makeFunc fn first cap).run Tryd.prog w = .ok (.func fn first cap) w := fun _ _ _ _ => rfl
  go_enter_defers Tryd.func51, Tryd.ntmps51
  go_wp2_with fail
  have hs1 := (((h.alloc (.cells #[.pointer (some ⟨g, 0, none⟩)] 24)).alloc (.cells #[.int .u32 0] 32)).alloc (.cells #[.int .i64 0] 36)).alloc (.cells #[.int .i64 ns.length] 3)
  simp only [World.size_alloc] at hs1
  generalize hk : w.heap.size = k at *
  generalize ((((w.alloc _).alloc _).alloc _).alloc _) = w1 at hs1 ⊢
  refine (hdo [_, _, _, _] w1 (hs1.pull 4)).mono ?_
  rintro e w2 ⟨rfl, hs2⟩
  have c0 := (hs2.pull 3).cell 0
  have f0 := (hs2.pull 3).free 0
  have c1 := (hs2.pull 2).cell 0
  have f1 := (hs2.pull 2).free 0
  simp at c0 c1
  have hs3 := (((hs2.pull 3).set 0 (.int .u32 (x : Nat))).pull 3).set 0 (.int .i64 0)
  go_wp2_with fail
  generalize hw3 : (w2.setCell _ _).setCell _ _ = w3
  rw [hw3] at hs3
  have d0 : w3.cell? ⟨k + 1 + 1, 0, none⟩ = some (.int .i64 0) := hs3.cell 0
  have d1 : w3.cell? ⟨k + 1, 0, none⟩ = some (.int .u32 (x : Nat)) := (hs3.pull 1).cell 0
  refine leaves_cons (f := 84) (args := #[.pointer (some ⟨k, 0, none⟩), .pointer (some ⟨k + 1 + 1 + 1, 0, none⟩), .pointer (some ⟨k + 1, 0, none⟩), .pointer (some ⟨k + 1 + 1, 0, none⟩)]) (by simp) (by simp [go_sem]) ?_
  refine (catch_idle _ rfl _).mono ?_
  rintro e u' w4 ⟨rfl, rfl, rfl⟩
  simp [Leaves, settle, results, Tryd.results51, go_sem, d0, d1]
  exact hs3.sel [2] 4

theorem length_le_of_nodup : ∀ (n : Nat) (l : List Nat), l.Nodup → (∀ x ∈ l, x < n) → l.length ≤ n
  | 0, l, _, h => by
    cases l with
    | nil => exact Nat.le_refl _
    | cons x l => exact absurd (h x List.mem_cons_self) (Nat.not_lt_zero _)
  | n + 1, l, hd, h => by
    by_cases hn : n ∈ l
    · have h1 := length_le_of_nodup n (l.erase n) (hd.erase n) (fun x hx => by
        have hm := (hd.mem_erase_iff).1 hx
        have := h x hm.2
        have := hm.1
        omega)
      have h2 := List.length_erase_of_mem hn
      omega
    · have h1 := length_le_of_nodup n l hd (fun x hx => by
        have := h x hx
        have : x ≠ n := fun e => hn (e ▸ hx)
        omega)
      omega
theorem Lined.length_le {ns : Nodes} {l : List Nat} (h : Lined ns l) : l.length ≤ ns.length := length_le_of_nodup _ _ h.nodup fun x hx => (h.mem x hx).2

theorem St.bundle {w0 w : World} {l1 X : List HP} {G : HP} (h : SL.St w0 (G :: (l1 ++ X)) w) : SL.St w0 (G :: All l1 :: X) w := by
  have h1 : SL.St w0 (l1 ++ (G :: X)) w := h.perm (List.perm_middle.symm)
  exact (SL.St.fold h1).swap
theorem St.unbundle {w0 w : World} {l1 X : List HP} {G : HP} (h : SL.St w0 (G :: All l1 :: X) w) : SL.St w0 (G :: (l1 ++ X)) w := by
  have h1 : SL.St w0 (l1 ++ (G :: X)) w := SL.St.flat h.swap
  exact h1.perm (List.perm_middle)
end Go.Proofs.YtjllogellpfpkaaDoor
