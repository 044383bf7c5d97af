/- What scripts make: both graphs. -/
import Derived.Test.YtjeopmiopinlgaaAigB
import Derived.Recover
import Derived.Test.YtjeopmiopinlgaaTsE
import Derived.Test.YtjeopmiopinlgaaAigK0
import Derived.Test.YtjeopmiopinlgaaAigU
import Derived.Test.YtjeopmiopinlgaaTsP
/- And, Or, Xor, Mux, All. -/
/- What is made by some ands: with a deferred look at a panic that does not come. -/
set_option linter.unusedVariables false
set_option linter.unusedSimpArgs false
namespace Go.Proofs.Ytjeopmiopinlgaa
open Go Go.RowKit SL

theorem catch_idle (caps : Array Value) (h4 : caps.size = 4) (w : World) :
    CallsD Try.prog 77 caps .returning w fun e u' w' => e = .returned (.tuple #[]) ∧ u' = .returning ∧ w' = w := by
  obtain ⟨c0, c1, c2, c3, rfl⟩ : ∃ c0 c1 c2 c3, caps = #[c0, c1, c2, c3] := ⟨caps[0], caps[1], caps[2], caps[3], by
    apply Array.ext
    · simp [h4]
    · intro i h1 h2
      have : i = 0 ∨ i = 1 ∨ i = 2 ∨ i = 3 := by omega
      rcases this with rfl | rfl | rfl | rfl <;> rfl⟩
  refine callsD_of_wpS Try.func77 rfl fun c₀ cs hu => ?_
  apply wpS_seq
  apply wpS_region
  simp [wpOpsS, go_sem, recoverD, hu, Try.ntmps77, Exit.thenS]
  apply wpS_seq
  apply wpS_region
  simp [wpOpsS, go_sem, recoverD, hu, Exit.thenS]
  refine wpS_cond (t := false) (by simp [Act.eval, Array.replicate]) ?_
  simp only [Bool.false_eq_true, if_false]
  refine wpS_of_wp (wp_skip ?_)
  cases c₀
  simp_all [bodyPostS, results, Try.results77]

theorem made_walk (w0 w : World) (l : List HP) (g : Nat) (ns ns' : List (Nat × Nat)) (x : Nat) (N : Nat) (caps : Array Value) (h : SL.St w0 (Graph g ns :: l) w)
    (hN : ∀ w : World, (callFunc N caps).run Try.prog w = .ok (.enter N caps) w)
    (hdo : ∀ (l1 : List HP) (w1 : World), SL.St w0 (Graph g ns :: (l1 ++ l)) w1 → Calls Try.prog N caps w1 fun e w' => e = .returned (.int .u32 (x : Nat)) ∧ SL.St w0 (Graph g ns' :: (l1 ++ l)) w') :
    Calls Try.prog 72 #[.pointer (some ⟨g, 0, none⟩), .func (.func N) #[] caps] w fun e w' =>
      e = .returned (.tuple #[.int .u32 (x : Nat), .int .i64 0]) ∧ SL.St w0 (Graph g ns' :: l) w' := by
  obtain ⟨vn, vi, bm, hs⟩ := St.graph h
  obtain ⟨An, cn, rfl, hmn, hrn⟩ := (hs.pull 1).rd
  have hg0 : w.cell? ⟨g, 0, none⟩ = some (.slice An ns.length cn) := hs.cell 0
  obtain ⟨-, -, ra, rb, -⟩ := allocs hg0
  have hmf : ∀ (fn : Fn) (first cap : Array Value) (w : World), (Instr.makeFunc fn first cap).run Try.prog w = .ok (.func fn first cap) w := fun _ _ _ _ => rfl
  go_enter_defers Try.func72, Try.ntmps72
  go_wp2_with fail
  have hs1 := (((h.alloc (.cells #[.pointer (some ⟨g, 0, none⟩)] 25)).alloc (.cells #[.int .u32 0] 42)).alloc (.cells #[.int .i64 0] 34)).alloc (.cells #[.int .i64 ns.length] 3)
  simp only [World.size_alloc] at hs1
  generalize hk : w.heap.size = k at *
  generalize ((((w.alloc _).alloc _).alloc _).alloc _) = w1 at hs1 ⊢
  refine (hdo [_, _, _, _] w1 (hs1.pull 4)).mono ?_
  rintro e w2 ⟨rfl, hs2⟩
  have c0 := (hs2.pull 3).cell 0
  have f0 := (hs2.pull 3).free 0
  have c1 := (hs2.pull 2).cell 0
  have f1 := (hs2.pull 2).free 0
  simp at c0 c1
  have hs3 := (((hs2.pull 3).set 0 (.int .u32 (x : Nat))).pull 3).set 0 (.int .i64 0)
  go_wp2_with fail
  generalize hw3 : (w2.setCell _ _).setCell _ _ = w3
  rw [hw3] at hs3
  have d0 : w3.cell? ⟨k + 1 + 1, 0, none⟩ = some (.int .i64 0) := hs3.cell 0
  have d1 : w3.cell? ⟨k + 1, 0, none⟩ = some (.int .u32 (x : Nat)) := (hs3.pull 1).cell 0
  refine leaves_cons (f := 77) (args := #[.pointer (some ⟨k, 0, none⟩), .pointer (some ⟨k + 1 + 1 + 1, 0, none⟩), .pointer (some ⟨k + 1, 0, none⟩), .pointer (some ⟨k + 1 + 1, 0, none⟩)]) (by simp) (by simp [go_sem]) ?_
  refine (catch_idle _ rfl _).mono ?_
  rintro e u' w4 ⟨rfl, rfl, rfl⟩
  simp [Leaves, settle, results, Try.results72, go_sem, d0, d1]
  exact hs3.sel [2] 4
end Go.Proofs.Ytjeopmiopinlgaa
set_option linter.unusedVariables false
set_option linter.unusedSimpArgs false
namespace Go.Proofs.Ytjeopmiopinlgaa
open Go Go.RowKit SL

def Does (w0 : World) (g : Nat) (ns ns' : List (Nat × Nat)) (x : Nat) (l : List HP) (N : Nat) (caps : Array Value) : Prop :=
  ∀ (l1 : List HP) (w1 : World), SL.St w0 (Graph g ns :: (l1 ++ l)) w1 → Calls Try.prog N caps w1 fun e w' => e = .returned (.int .u32 (x : Nat)) ∧ SL.St w0 (Graph g ns' :: (l1 ++ l)) w'

theorem checked_walk (w0 w : World) (l : List HP) (g : Nat) (ns ns' : List (Nat × Nat)) (x : Nat) (N : Nat) (caps : Array Value) (h : SL.St w0 (Graph g ns :: l) w) (hn : ns.length ≤ 1073741824)
    (hN : ∀ w : World, (callFunc N caps).run Try.prog w = .ok (.enter N caps) w) (hdo : Does w0 g ns ns' x l N caps)
    (v : Value) (xs : List Nat) (hr : Rd (cNat .u32) v xs w) (hx : ∀ y ∈ xs, y < 2 * ns.length) :
    Calls Try.prog 58 #[.pointer (some ⟨g, 0, none⟩), .func (.func N) #[] caps, v] w fun e w' =>
      e = .returned (.tuple #[.int .u32 (x : Nat), .int .i64 0]) ∧ SL.St w0 (Graph g ns' :: l) w' := by
  obtain ⟨vn, vi, bm, hs⟩ := St.graph h
  obtain ⟨An, cn, rfl, hmn, hrn⟩ := (hs.pull 1).rd
  have hg0 : w.cell? ⟨g, 0, none⟩ = some (.slice An ns.length cn) := hs.cell 0
  have hall : (xs.all fun y => decide (y / 2 < ns.length)) = true := by
    rw [List.all_eq_true]; intro y hy; have := hx y hy; simp; omega
  have hxb : ∀ y ∈ xs, y < 4294967296 := fun y hy => by have := hx y hy; omega
  clear hs hrn
  go_enter Try.func58, Try.ntmps58
  go_wp2_with (first | (go_at_call 71; refine (may_walk _ _ _ _ _ _ xs hg0 hn hr hxb).mono ?_; rintro e w' ⟨rfl, rfl⟩; rw [hall]) | (go_at_call 72; refine (made_walk w0 _ l g ns ns' x N caps h hN hdo).mono ?_; rintro e w1 ⟨rfl, hs1⟩))
  go_ret2
  exact ⟨rfl, hs1⟩

/-- The variables that a closure of And's, Or's and Xor's has taken. -/
theorem caps3 {w0 w : World} {l1 l : List HP} {g k : Nat} {ns : List (Nat × Nat)} {a b : Nat} {z : HP}
    (h : SL.St w0 (Graph g ns :: (l1 ++ (z :: Blk (k + 1 + 1) (.cells #[.int .u32 (b : Nat)] 42 (0, 0)) :: Blk (k + 1) (.cells #[.int .u32 (a : Nat)] 42 (0, 0)) :: Blk k (.cells #[.pointer (some ⟨g, 0, none⟩)] 25 (0, 0)) :: l))) w) :
    w.cell? ⟨k, 0, none⟩ = some (.pointer (some ⟨g, 0, none⟩)) ∧ w.cell? ⟨k + 1, 0, none⟩ = some (.int .u32 (a : Nat)) ∧ w.cell? ⟨k + 1 + 1, 0, none⟩ = some (.int .u32 (b : Nat)) :=
  have h1 := h.drop.dropL
  ⟨(h1.pull 3).cell 0, (h1.pull 2).cell 0, (h1.pull 1).cell 0⟩

theorem And_walk (w0 w : World) (l : List HP) (g : Nat) (ns : List (Nat × Nat)) (h : SL.St w0 (Graph g ns :: l) w) (hn : ns.length < 1073741824) (h0 : ns.length ≠ 0) (a b : Nat) (ha : a < 2 * ns.length) (hb : b < 2 * ns.length) :
    Calls Try.prog 37 #[.pointer (some ⟨g, 0, none⟩), .int .u32 (a : Nat), .int .u32 (b : Nat)] w fun e w' =>
      e = .returned (.tuple #[.int .u32 ((andM ns a b).1 : Nat), .int .i64 0]) ∧ SL.St w0 (Graph g (andM ns a b).2 :: l) w' := by
  have hmf : ∀ (fn : Fn) (first cap : Array Value) (w : World), (Instr.makeFunc fn first cap).run Try.prog w = .ok (.func fn first cap) w := fun _ _ _ _ => rfl
  go_enter Try.func37, Try.ntmps37
  go_wp2_with fail
  have hs1 := (((h.alloc (.cells #[.pointer (some ⟨g, 0, none⟩)] 25)).alloc (.cells #[.int .u32 (a : Nat)] 42)).alloc (.cells #[.int .u32 (b : Nat)] 42)).alloc (.cells #[.int .u32 (a : Nat), .int .u32 (b : Nat)] 42)
  simp only [World.size_alloc] at hs1
  generalize hk : w.heap.size = k at *
  generalize ((((w.alloc _).alloc _).alloc _).alloc _) = w1 at hs1 ⊢
  refine (checked_walk w0 w1 _ g ns (andM ns a b).2 (andM ns a b).1 59 _ (hs1.pull 4) (by omega) (fun _ => by kernel_rfl) ?_ _ [a, b] (hs1.rd_blk _ _ rfl rfl (by unfold maxLen; simp)) (by simp [ha, hb])).mono ?_
  · intro l1 w2 hs2
    obtain ⟨c0, c1, c2⟩ := caps3 hs2
    go_enter Try.func59, Try.ntmps59
    go_wp2_with (go_at_call 60; refine (and_walk w0 _ _ g ns hs2 hn h0 _ _ (by omega) (by omega)).mono ?_; rintro e w3 ⟨rfl, hs3⟩)
    go_ret
    exact ⟨rfl, hs3⟩
  · rintro e w4 ⟨rfl, hs4⟩
    go_wp2_with fail
    go_ret2
    exact ⟨rfl, hs4.sel [0] 4⟩
end Go.Proofs.Ytjeopmiopinlgaa
set_option linter.unusedVariables false
set_option linter.unusedSimpArgs false
namespace Go.Proofs.Ytjeopmiopinlgaa
open Go Go.RowKit SL

theorem add_form3 (ad : Addr) (m k : Nat) (hk : k ≠ 0) : ad.add (m + k) = ⟨(ad.add m).block, (ad.add m).off + k, none⟩ := by
  unfold Addr.add
  rw [if_neg (by omega)]
  split
  · rename_i h; subst h; simp
  · simp [Nat.add_assoc]
abbrev Mk3 := Int × Int × Int
def In64' (k : Int) : Prop := -9223372036854775808 ≤ k ∧ k ≤ 9223372036854775807
def MkIn3 (s : Mk3) : Prop := In64' s.1 ∧ In64' s.2.1 ∧ In64' s.2.2
def cMade3 : Cd Mk3 := ⟨3, fun s => [.int .i64 s.1, .int .i64 s.2.1, .int .i64 s.2.2], fun _ => rfl, by simp [Value.oneCell'], by decide⟩
def mk3 (ns : Nodes) (k : Int) (a b : Nat) : Nat × Nodes := if k = 1 then (2 * ns.length, ns ++ [(mark, (inputsOf ns).length)]) else andM ns a b
def mkStep3 (p : Nodes × List Nat) (s : Mk3) : Nodes × List Nat := ((mk3 p.1 s.1 (pickM p.2 s.2.1) (pickM p.2 s.2.2)).2, p.2 ++ [(mk3 p.1 s.1 (pickM p.2 s.2.1) (pickM p.2 s.2.2)).1])
def madeT (script : List Mk3) : Nodes × List Nat := script.foldl mkStep3 ([(0, 0)], [0])
theorem madeT_snoc (l : List Mk3) (s : Mk3) : madeT (l ++ [s]) = mkStep3 (madeT l) s := by simp [madeT]
theorem mk3_lt {ns : Nodes} (k : Int) {a b : Nat} (h0 : ns.length ≠ 0) (ha : a < 2 * ns.length) (hb : b < 2 * ns.length) :
    (mk3 ns k a b).1 < 2 * (mk3 ns k a b).2.length ∧ ns.length ≤ (mk3 ns k a b).2.length ∧ (mk3 ns k a b).2.length ≤ ns.length + 1 := by
  unfold mk3
  split
  · simp
  · exact andM_lt ns a b h0 ha hb
structure OkT (p : Nodes × List Nat) (j : Nat) : Prop where
  good : GoodG p.1
  small : p.1.length ≤ 1 + j
  len : p.2.length = j + 1
  lits : ∀ y ∈ p.2, y < 2 * p.1.length
theorem OkT.step {p : Nodes × List Nat} {j : Nat} (h : OkT p j) (hj : j < 1073741823) (s : Mk3) : OkT (mkStep3 p s) (j + 1) := by
  have hp : 0 < p.2.length := by have := h.len; omega
  have ha := pickM_lt hp h.lits s.2.1
  have hb := pickM_lt hp h.lits s.2.2
  have k := mk3_lt s.1 h.good.pos ha hb
  have hs := h.small
  refine ⟨?_, by simp only [mkStep3]; omega, by simp [mkStep3, h.len], ?_⟩
  · show GoodG (mk3 p.1 s.1 _ _).2
    unfold mk3
    split
    · exact h.good.input
    · exact h.good.and ha hb (by omega)
  · intro y hy
    simp only [mkStep3] at hy ⊢
    rcases List.mem_append.1 hy with h1 | h1
    · have := h.lits y h1; omega
    · rw [List.mem_singleton.1 h1]; exact k.1
theorem madeT_ok (l : List Mk3) (hl : l.length ≤ 1073741823) : OkT (madeT l) l.length := by
  revert hl
  refine snocInd (P := fun l => l.length ≤ 1073741823 → OkT (madeT l) l.length) ?_ ?_ l
  · intro _
    exact ⟨good_start, by simp [madeT], by simp [madeT], fun y hy => by simp [madeT] at hy ⊢; omega⟩
  · intro l s ih hl
    rw [List.length_append, List.length_singleton] at hl
    rw [madeT_snoc, List.length_append, List.length_singleton]
    exact (ih (by omega)).step (by omega) s
theorem GoodG.uq {ns : Nodes} (h : GoodG ns) : Uniq ns := by
  intro i j p hi hj h0 h1 hm
  have hil := (List.getElem?_eq_some_iff.1 hi).1
  have hjl := (List.getElem?_eq_some_iff.1 hj).1
  have gi : nd ns i = p := by unfold nd; rw [List.getD_eq_getElem?_getD, hi]; rfl
  have gj : nd ns j = p := by unfold nd; rw [List.getD_eq_getElem?_getD, hj]; rfl
  have ki : isGate ns i = true := by rw [isGate_nd, gi]; simp [h0, hm]
  have kj : isGate ns j = true := by rw [isGate_nd, gj]; simp [h1, hm]
  rcases Nat.lt_trichotomy i j with h2 | h2 | h2
  · exact absurd (gi.trans gj.symm) (h.uniq i j h2 hjl ki kj)
  · exact h2
  · exact absurd (gj.trans gi.symm) (h.uniq j i h2 hil kj ki)

theorem inputsOf_and (ns : Nodes) (a b : Nat) (ha : a ≠ mark) : (inputsOf (andM ns a b).2).length = (inputsOf ns).length := by
  unfold andM
  split
  · rfl
  split
  · rfl
  split
  · rfl
  cases hl : lookIn (a, b) (gatesOf ns) 0 with
  | some y => rfl
  | none => simp only; rw [inputsOf_snoc ns (a, b) ha]

set_option maxRecDepth 100000 in
set_option maxHeartbeats 8000000 in
theorem made_t (w0 w : World) (l : List HP) (h : SL.St w0 l w) (v : Value) (script : List Mk3) (hr : Ent l (Rd cMade3 v script)) (hin : ∀ s ∈ script, MkIn3 s) (hl : script.length ≤ 100000000) :
    Calls Try.prog 9 #[v] w fun e w' => ∃ g r vo, e = .returned (.tuple #[.pointer (some ⟨g, 0, none⟩), .pointer (some ⟨r, 0, none⟩), vo, .bool true]) ∧
      SL.St w0 (Arr (cNat .u32) 42 vo (madeT script).2 :: Graph g (madeT script).1 :: RGraph r (rnodes (madeT script).1) (inputsOf (madeT script).1).length :: l) w' := by
  obtain ⟨A, c, hv, hm, -⟩ := hr.use h
  subst hv
  unfold maxLen at hm
  go_enter Try.func9, Try.ntmps9
  go_wp2_with fail
  refine (New_walk w0 w l h).mono ?_
  rintro e w1 ⟨g, rfl, h1⟩
  go_wp2_with fail
  refine (rnew_walk w0 w1 _ h1).mono ?_
  rintro e w2 ⟨r, rfl, h2⟩
  go_wp2_with fail
  have h3 := ((h2.alloc (.cells #[.int .u32 0] 42)).arr_lit (d := cNat .u32) (n := 1) (xs := [0]) rfl rfl (by decide)).sel [0, 2, 1]
  generalize w2.heap.size = k0 at h3 ⊢
  generalize World.alloc w2 _ = w3 at h3 ⊢
  clear h h1 h2
  go_loopg [8, 9] script.length (fun k vo i wr => ∃ j : Nat, j ≤ script.length ∧ k = script.length - j ∧ i = .int .i64 j ∧ SL.St w0 (Arr (cNat .u32) 42 vo (madeT (script.take j)).2 :: Graph g (madeT (script.take j)).1 :: RGraph r (rnodes (madeT (script.take j)).1) (inputsOf (madeT (script.take j)).1).length :: l) wr)
  case atStart => exact ⟨0, Nat.zero_le _, rfl, rfl, h3⟩
  case round =>
    clear h3
    obtain ⟨j, hj, hgk, rfl, hsr⟩ := hrel
    subst hgk
    by_cases hlt : j < script.length
    · obtain ⟨A', c', hv, -, hc⟩ := hr.use (hsr.sel [] 3)
      obtain ⟨ad, hA', hcell⟩ := hc j script[j] (List.getElem?_eq_getElem hlt)
      obtain rfl : A = some ad := by
        have : A' = A := by injection hv with h1; exact h1.symm
        rw [← this]; exact hA'
      have q0 := hcell 0 _ rfl
      have q1 := hcell 1 _ rfl
      have q2 := hcell 2 _ rfl
      have hok := madeT_ok (script.take j) (by simp; omega)
      rw [show (script.take j).length = j by simp; omega] at hok
      have HT := Lib.hid (show madeT (script.take (j + 1)) = mkStep3 (madeT (script.take j)) script[j] by rw [List.take_succ_eq_append_getElem hlt, madeT_snoc])
      have hms := hin _ (List.getElem_mem hlt)
      clear hc hv hA' hcell
      simp only [cMade3, Nat.add_zero] at q0 q1 q2
      rw [add_form3 _ _ _ (by decide)] at q1 q2
      generalize script[j] = s at *
      obtain ⟨K, a, b⟩ := s
      obtain ⟨hK, ha, hb⟩ := hms
      simp only at q0 q1 q2 hK ha hb
      obtain ⟨hK1, hK2⟩ := hK
      obtain ⟨ha1, ha2⟩ := ha
      obtain ⟨hb1, hb2⟩ := hb
      generalize madeT (script.take j) = p at *
      obtain ⟨ns, ls⟩ := p
      obtain ⟨hgd, hps, hpl, hpx⟩ := hok
      simp only at hgd hps hpl hpx hsr ⊢
      have hp0 := hgd.pos
      have hu := hgd.uq
      have hinl := inputsOf_length ns
      have HPL := Lib.hid hpl; clear hpl
      obtain ⟨Av, cv, rfl, -, -⟩ := hsr.rd
      unfold mkStep3 at HT
      simp only at HT
      have fin : ∀ (x : Nat) (ns' : Nodes), mk3 ns K (pickM ls a) (pickM ls b) = (x, ns') → ∀ (vo : Value) (w7 : World), SL.St w0 (Arr (cNat .u32) 42 vo (ls ++ [x]) :: Graph g ns' :: RGraph r (rnodes ns') (inputsOf ns').length :: l) w7 →
          ∃ j' : Nat, j' ≤ script.length ∧ script.length - (j + 1) = script.length - j' ∧ Value.int .i64 ((j : Int) + 1) = .int .i64 j' ∧ SL.St w0 (Arr (cNat .u32) 42 vo (madeT (script.take j')).2 :: Graph g (madeT (script.take j')).1 :: RGraph r (rnodes (madeT (script.take j')).1) (inputsOf (madeT (script.take j')).1).length :: l) w7 := by
        intro x ns' h1 vo w7 h2
        refine ⟨j + 1, by omega, rfl, rfl, ?_⟩
        rw [HT.out, h1]
        exact h2
      have FIN := Lib.hid fin; clear fin HT
      by_cases h1 : K = 1
      · have e1 : (K == 1) = true := by simp [h1]
        have hR : mk3 ns K (pickM ls a) (pickM ls b) = (2 * ns.length, ns ++ [(mark, (inputsOf ns).length)]) := by unfold mk3; rw [if_pos h1]
        have HR := Lib.hid hR; clear hR h1
        go_wp2_with fail
        refine (input_walk w0 wr _ g ns (hsr.pull 1) (by omega)).mono ?_
        rintro e w4 ⟨rfl, h4⟩
        have hxl : 2 * ns.length < 4294967296 := by omega
        obtain ⟨x, hx2⟩ : ∃ x, x = 2 * ns.length := ⟨_, rfl⟩
        rw [← hx2] at hxl HR ⊢
        have HX2 := Lib.hid hx2; clear hx2
        go_wp2_with fail
        have h5 := h4.sel [2]
        have hri := rinput_walk w0 w4 _ r _ _ h5 (by rw [rnodes_length]; omega) (by omega)
        rw [rnodes_length, ← HX2.out] at hri
        refine hri.mono ?_
        rintro e w5 ⟨rfl, h6⟩
        rw [← rnodes_input hp0, show (inputsOf ns).length + 1 = (inputsOf (ns ++ [(mark, (inputsOf ns).length)])).length by rw [inputsOf_snoc_mark]; simp] at h6
        clear h4 h5 hri
        generalize ns ++ [(mark, (inputsOf ns).length)] = ns1 at *
        have hne : ((x : Int) != (x : Int)) = false := by simp
        clear HX2
        have hsa := SL.St.alloc h6 (.cells #[.int .u32 (x : Nat)] 42)
        go_wp2_with (first | (go_at_call 14; refine (no_walk _ 0 (by decide) (by decide)).mono ?_; rintro e w' ⟨rfl, rfl⟩) | (at_builtin; go_loud (refine wpList_app rfl _ _ rfl Try.underlying24 infoU32 rfl (hsa.pull 3) rfl (ys := [x]) rfl (hsa.rd_blk (ys := [x]) 1 1 rfl rfl (by decide)) (by have := HPL.out; simp; omega) (by have := HPL.out; simp; omega) ?_); intro vo' w7 hs7))
        go_roundg (script.length - (j + 1))
        case measure => omega
        case rel => exact FIN.out x ns1 HR.out _ _ (hs7.sel [0, 3, 2] 1)
      · have e1 : (K == 1) = false := by simp [h1]
        have hR : mk3 ns K (pickM ls a) (pickM ls b) = andM ns (pickM ls a) (pickM ls b) := by unfold mk3; rw [if_neg h1]
        have HR := Lib.hid hR; clear hR h1
        have hlp : 0 < ls.length := by have := HPL.out; omega
        have hpb : ∀ y ∈ ls, y < 4294967296 := fun y hy => by have := hpx y hy; omega
        have hva := pick_walk wr _ ls hsr.rd hpb hlp (by have := HPL.out; omega) a ha1 ha2
        have hvb := pick_walk wr _ ls hsr.rd hpb hlp (by have := HPL.out; omega) b hb1 hb2
        have hxa := pickM_lt hlp hpx a
        have hxb := pickM_lt hlp hpx b
        clear hlp hpb
        generalize pickM ls a = xa at *
        generalize pickM ls b = xb at *
        go_wp2_with fail
        refine hva.mono ?_; rintro e w' ⟨rfl, rfl⟩
        go_wp2_with fail
        refine hvb.mono ?_; rintro e w' ⟨rfl, rfl⟩
        clear hva hvb
        have hxl := (andM_lt ns xa xb hp0 hxa hxb)
        have hii := inputsOf_and ns xa xb (by unfold mark; omega)
        go_wp2_with fail
        refine (And_walk w0 _ _ g ns (hsr.pull 1) (by omega) hp0 xa xb hxa hxb).mono ?_
        rintro e w4 ⟨rfl, h4⟩
        go_wp2_with fail
        refine (rAnd_walk w0 w4 _ r _ ns (h4.sel [2]) (by omega) hp0 hu xa xb hxa hxb).mono ?_
        rintro e w5 ⟨rfl, h6⟩
        rw [← hii] at h6
        clear h4 hsr hii
        generalize andM ns xa xb = rr at *
        obtain ⟨x, ns1⟩ := rr
        simp only at h6 hxl ⊢
        have hne : ((x : Int) != (x : Int)) = false := by simp
        have hsa := SL.St.alloc h6 (.cells #[.int .u32 (x : Nat)] 42)
        go_wp2_with (first | (go_at_call 14; refine (no_walk _ 0 (by decide) (by decide)).mono ?_; rintro e w' ⟨rfl, rfl⟩) | (at_builtin; go_loud (refine wpList_app rfl _ _ rfl Try.underlying24 infoU32 rfl (hsa.pull 3) rfl (ys := [x]) rfl (hsa.rd_blk (ys := [x]) 1 1 rfl rfl (by decide)) (by have := HPL.out; simp; omega) (by have := HPL.out; simp; omega) ?_); intro vo' w7 hs7))
        go_roundg (script.length - (j + 1))
        case measure => omega
        case rel => exact FIN.out x ns1 HR.out _ _ (hs7.sel [0, 3, 2] 1)
    · obtain rfl : j = script.length := by omega
      rw [List.take_length] at hsr
      go_wp2_with fail
      refine bodyPost_ret (v := .tuple #[.pointer (some ⟨g, 0, none⟩), .pointer (some ⟨r, 0, none⟩), _, .bool true]) (by simp [results, Try.results9, go_sem]) rfl ⟨_, _, _, rfl, hsr⟩
end Go.Proofs.Ytjeopmiopinlgaa
