/- Tseitin's cone and lit. -/
import Derived.Test.YtjeopmiopinlgaaTsP
import Derived.Test.YtjeopmiopinlgaaTsD
set_option linter.unusedVariables false
set_option linter.unusedSimpArgs false
namespace Go.Proofs.Ytjeopmiopinlgaa
open Go Go.RowKit SL

theorem all_false {xs : List Nat} {n : Nat} (h : ¬ ∀ y ∈ xs, y < 2 * n) : (xs.all fun x => decide (x / 2 < n)) = false := by
  rw [List.all_eq_false]
  simp only [Classical.not_forall] at h
  obtain ⟨y, hy, h⟩ := h
  exact ⟨y, hy, by simp; omega⟩
theorem Cone_bad (w0 w : World) (l : List HP) (g : Nat) (ns : Nodes) (h : SL.St w0 (Graph g ns :: l) w) (hl : ns.length ≤ 1073741824) (v : Value) (roots : List Nat) (hr : Ent l (Rd (cNat .u32) v roots)) (hxb : ∀ y ∈ roots, y < 4294967296) (hx : ¬ ∀ y ∈ roots, y < 2 * ns.length) :
    Calls Try.prog 68 #[.pointer (some ⟨g, 0, none⟩), v] w fun e w' =>
      e = .returned (.tuple #[.slice none 0 0, .int .i64 100]) ∧ SL.St w0 (Graph g ns :: l) w' := by
  obtain ⟨vn, vi, bm, hs⟩ := St.graph h
  obtain ⟨An, cn, rfl, hmn, hrn⟩ := (hs.pull 1).rd
  have hg0 : w.cell? ⟨g, 0, none⟩ = some (.slice An ns.length cn) := hs.cell 0
  have hall := all_false hx
  have hrw := hr.use h.drop
  clear hs hrn hx
  go_enter Try.func68, Try.ntmps68
  go_wp2_with (go_at_call 71; refine (may_walk _ _ _ _ _ _ roots hg0 hl hrw hxb).mono ?_; rintro e w' ⟨rfl, rfl⟩; rw [hall])
  go_ret2
  exact ⟨rfl, h⟩

theorem tlit_walk (w : World) (v : Value) (vs : List Nat) (hr : Rd (cNat .i64) v vs w) (x : Nat) (hx : x / 2 < vs.length) (hb : x < 4294967296) (hv : ∀ i, vs.getD i 0 ≤ 1073741824) :
    Calls Try.prog 64 #[v, .int .u32 (x : Nat)] w fun e w' => w = w' ∧ e = .returned (.int .i64 (litT vs x)) := by
  obtain ⟨A, c, rfl, hm, hc⟩ := hr
  obtain ⟨ad, rfl, hcell⟩ := rd_at hc _ hx
  have hg : vs.getD (x / 2) 0 = vs[x / 2] := by simp [List.getD_eq_getElem?_getD, hx]
  have hvb := hv (x / 2)
  have HL : litT vs x = if x % 2 = 1 then -((vs.getD (x / 2) 0 : Nat) : Int) else (vs.getD (x / 2) 0 : Nat) := rfl
  rw [hg] at HL hvb
  have hq : ((x : Nat) : Int) / 2 = ((x / 2 : Nat) : Int) := by omega
  unfold maxLen at hm
  clear hc hg hv
  generalize litT vs x = L at *
  generalize vs[x / 2] = b at *
  generalize x / 2 = q at *
  by_cases ho : x % 2 = 1
  · have hm1 : (((x : Nat) : Int) % 2 == 1) = true := by
      have e : ((x : Int)) % 2 = ((x % 2 : Nat) : Int) := by omega
      rw [e, ho]; rfl
    rw [if_pos ho] at HL
    have HL := Lib.hid HL
    clear ho
    go_enter Try.func64, Try.ntmps64
    go_wp2
    go_ret
    rw [HL.out]
    exact ⟨rfl, rfl⟩
  · have hm1 : (((x : Nat) : Int) % 2 == 1) = false := by
      have e : ((x : Int)) % 2 = ((x % 2 : Nat) : Int) := by omega
      rw [e, show x % 2 = 0 by omega]; rfl
    rw [if_neg ho] at HL
    have HL := Lib.hid HL
    clear ho
    go_enter Try.func64, Try.ntmps64
    go_wp2
    go_ret
    rw [HL.out]
    exact ⟨rfl, rfl⟩

set_option maxRecDepth 100000 in
set_option maxHeartbeats 2000000 in
theorem tcone_walk (w0 w : World) (l : List HP) (g : Nat) (ns : Nodes) (h : SL.St w0 (Graph g ns :: l) w) (hw : Wf ns) (hl : ns.length ≤ 1073741824) (v : Value) (roots : List Nat) (hr : Ent l (Rd (cNat .u32) v roots)) (hx : ∀ y ∈ roots, y < 2 * ns.length) :
    Calls Try.prog 47 #[.pointer (some ⟨g, 0, none⟩), v] w fun e w' =>
      ∃ vc vv, e = .returned (.tuple #[vc, vv, .int .i64 0]) ∧ SL.St w0 (Arr (cNat .i64) 3 vc (coneM ns roots) :: Arr (cNat .i64) 3 vv (varsM ns.length (coneM ns roots)) :: Graph g ns :: l) w' := by
  have hcw := Cone_walk w0 w l g ns h hw hl v roots hr hx
  have hmem := (coneM_lined hw roots hx).1.mem
  generalize coneM ns roots = K at *
  have hmk := run_make_row' (P := Try.prog) 23 3 (.int .i64 0) 8 Try.underlying23 infoInt rfl .i64 .i64 ns.length (by omega) (by omega)
  go_enter Try.func47, Try.ntmps47
  go_wp2_with (first | (go_at_call 68; refine hcw.mono ?_; rintro e w1 ⟨vc, rfl, h1⟩; obtain ⟨Ac, cc, rfl, hmc, -⟩ := h1.rd) | (go_at_call 19; refine (Nodes_walk w0 _ _ g ns (h1.pull 1)).mono ?_; rintro e w2 ⟨rfl, rfl⟩))
  unfold maxLen at hmc
  have h2 := (h1.alloc (.cells (madeCells #[Value.int .i64 0] ns.length) 3)).arr_made (d := cNat .i64) rfl (x := 0) rfl (by unfold maxLen; omega)
  generalize w1.heap.size = gs at h2 ⊢
  generalize (World.alloc w1 _) = w2 at h2 ⊢
  clear hmk h1 h hcw
  go_loopg [28] K.length (fun k i wr => ∃ j : Nat, j ≤ K.length ∧ k = K.length - j ∧ i = .int .i64 j ∧ SL.St w0 (Arr (cNat .i64) 3 (.slice (some ⟨gs, 0, none⟩) ns.length ns.length) (varsM ns.length (K.take j)) :: Arr (cNat .i64) 3 (.slice Ac K.length cc) K :: Graph g ns :: l) wr)
  case atStart => exact ⟨0, Nat.zero_le _, rfl, rfl, h2⟩
  case round =>
    clear h2
    obtain ⟨j, hj, hgk, rfl, hsr⟩ := hrel
    subst hgk
    by_cases hlt : j < K.length
    · obtain ⟨A', c', hv, -, hc⟩ := (hsr.pull 1).rd
      obtain ⟨ad, hA', hcell⟩ := rd_at hc j hlt
      obtain rfl : Ac = some ad := by
        have : A' = Ac := by injection hv with h1; exact h1.symm
        rw [← this]; exact hA'
      have hmj := (hmem _ (List.getElem_mem hlt)).2
      have HT := Lib.hid (show varsM ns.length (K.take (j + 1)) = (varsM ns.length (K.take j)).set K[j] (j + 1) by
        rw [List.take_succ_eq_append_getElem hlt, varsM_snoc, List.length_take, Nat.min_eq_left hj])
      have hvl := varsM_length ns.length (K.take j)
      clear hc hv hA'
      generalize varsM ns.length (K.take j) = vs at *
      generalize K[j] = m at *
      have HVL := Lib.hid hvl; clear hvl
      obtain ⟨c0, c1⟩ := hsr.arr_cell1 rfl m _ (List.getElem?_eq_getElem (by rw [HVL.out]; exact hmj)) _ rfl
      have hset := hsr.arr_set1 rfl m (by rw [HVL.out]; exact hmj) (j + 1) _ rfl
      go_wp2_with fail
      go_roundg (K.length - (j + 1))
      case measure => omega
      case rel => exact ⟨j + 1, by omega, rfl, by go_num, by rw [HT.out]; exact hset⟩
    · obtain rfl : j = K.length := by omega
      rw [List.take_length] at hsr
      go_wp2_with fail
      go_ret3
      exact ⟨_, _, rfl, hsr.sel [1, 0]⟩
theorem tcone_bad (w0 w : World) (l : List HP) (g : Nat) (ns : Nodes) (h : SL.St w0 (Graph g ns :: l) w) (hl : ns.length ≤ 1073741824) (v : Value) (roots : List Nat) (hr : Ent l (Rd (cNat .u32) v roots)) (hxb : ∀ y ∈ roots, y < 4294967296) (hx : ¬ ∀ y ∈ roots, y < 2 * ns.length) :
    Calls Try.prog 47 #[.pointer (some ⟨g, 0, none⟩), v] w fun e w' =>
      e = .returned (.tuple #[.slice none 0 0, .slice none 0 0, .int .i64 100]) ∧ SL.St w0 (Graph g ns :: l) w' := by
  have hcw := Cone_bad w0 w l g ns h hl v roots hr hxb hx
  clear hx
  go_enter Try.func47, Try.ntmps47
  go_wp2_with (go_at_call 68; refine hcw.mono ?_; rintro e w1 ⟨rfl, h1⟩)
  go_ret3
  exact ⟨rfl, h1⟩
theorem tcone_nil (w : World) (v : Value) :
    Calls Try.prog 47 #[.pointer none, v] w fun e w' =>
      w = w' ∧ e = .returned (.tuple #[.slice none 0 0, .slice none 0 0, .int .i64 2]) := by
  go_enter Try.func47, Try.ntmps47
  go_wp2_with fail
  go_ret3
  exact ⟨rfl, rfl⟩
end Go.Proofs.Ytjeopmiopinlgaa
