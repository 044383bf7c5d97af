/- What is wanted: Encode's and Polar's closures. -/
import Derived.Test.YtjeopmiopinlgaaTsG
import Derived.Test.YtjeopmiopinlgaaAigB
import Derived.Laws.BitsAllLaws
set_option linter.unusedVariables false
set_option linter.unusedSimpArgs false
namespace Go.Proofs.Ytjeopmiopinlgaa
open Go Go.RowKit SL

theorem infoU8 : (Try.prog.info? 5).map (fun i => (i.zero, i.size, i.bytes)) = some (some (.int .u8 0), 1, 1) := by kernel_rfl
theorem encodeW_snoc (ns : Nodes) (K : List Nat) (n : Nat) : encodeW ns (K ++ [n]) = (encodeW ns K).set n 3 := by simp [encodeW]
theorem encodeW_length (ns : Nodes) (K : List Nat) : (encodeW ns K).length = ns.length := by
  refine snocInd (P := fun c => (encodeW ns c).length = ns.length) ?_ ?_ K
  · simp [encodeW]
  · intro l a ih; rw [encodeW_snoc, List.length_set, ih]

set_option maxRecDepth 100000 in
set_option maxHeartbeats 2000000 in
theorem enc1_walk (w0 w : World) (l : List HP) (g kg : Nat) (ns : Nodes) (K : List Nat) (vc : Value) (h : SL.St w0 (Arr (cNat .i64) 3 vc K :: Graph g ns :: Blk kg (.cells #[.pointer (some ⟨g, 0, none⟩)] 25 (0, 0)) :: l) w) (hl : ns.length ≤ 1073741824) (hmem : ∀ m ∈ K, m < ns.length) :
    Calls Try.prog 40 #[vc, .pointer (some ⟨kg, 0, none⟩)] w fun e w' =>
      ∃ vw, e = .returned vw ∧ SL.St w0 (Arr (cNat .u8) 5 vw (encodeW ns K) :: Arr (cNat .i64) 3 vc K :: Graph g ns :: Blk kg (.cells #[.pointer (some ⟨g, 0, none⟩)] 25 (0, 0)) :: l) w' := by
  have g0 := (h.pull 2).cell 0
  simp at g0
  obtain ⟨Ac, cc, rfl, hmc, -⟩ := h.rd
  unfold maxLen at hmc
  have hmk := run_make_row' (P := Try.prog) 86 5 (.int .u8 0) 1 Try.underlying86 infoU8 rfl .i64 .i64 ns.length (by omega) (by omega)
  have h2 := (h.alloc (.cells (madeCells #[Value.int .u8 0] ns.length) 5)).arr_made (d := cNat .u8) rfl (x := 0) rfl (by unfold maxLen; omega)
  go_enter Try.func40, Try.ntmps40
  go_wp2_with (go_at_call 19; refine (Nodes_walk w0 _ _ g ns (h.pull 1)).mono ?_; rintro e w2 ⟨rfl, rfl⟩)
  generalize w.heap.size = gs at h2 ⊢
  generalize (World.alloc w _) = w2 at h2 ⊢
  clear hmk h g0
  go_loopg [12] K.length (fun k i wr => ∃ j : Nat, j ≤ K.length ∧ k = K.length - j ∧ i = .int .i64 j ∧ SL.St w0 (Arr (cNat .u8) 5 (.slice (some ⟨gs, 0, none⟩) ns.length ns.length) (encodeW ns (K.take j)) :: Arr (cNat .i64) 3 (.slice Ac K.length cc) K :: Graph g ns :: Blk kg (.cells #[.pointer (some ⟨g, 0, none⟩)] 25 (0, 0)) :: l) wr)
  case atStart => exact ⟨0, Nat.zero_le _, rfl, rfl, h2⟩
  case round =>
    clear h2
    obtain ⟨j, hj, hgk, rfl, hsr⟩ := hrel
    subst hgk
    by_cases hlt : j < K.length
    · obtain ⟨A', c', hv, -, hc⟩ := (hsr.pull 1).rd
      obtain ⟨ad, hA', hcell⟩ := rd_at hc j hlt
      obtain rfl : Ac = some ad := by
        have : A' = Ac := by injection hv with h1; exact h1.symm
        rw [← this]; exact hA'
      have hmj := hmem _ (List.getElem_mem hlt)
      have HT := Lib.hid (show encodeW ns (K.take (j + 1)) = (encodeW ns (K.take j)).set K[j] 3 by
        rw [List.take_succ_eq_append_getElem hlt, encodeW_snoc])
      have hvl := encodeW_length ns (K.take j)
      clear hc hv hA'
      generalize encodeW ns (K.take j) = vs at *
      generalize K[j] = m at *
      have HVL := Lib.hid hvl; clear hvl
      obtain ⟨c0, c1⟩ := hsr.arr_cell1 rfl m _ (List.getElem?_eq_getElem (by rw [HVL.out]; exact hmj)) _ rfl
      have hset := hsr.arr_set1 rfl m (by rw [HVL.out]; exact hmj) 3 _ rfl
      go_wp2_with fail
      go_roundg (K.length - (j + 1))
      case measure => omega
      case rel => exact ⟨j + 1, by omega, rfl, by go_num, by rw [HT.out]; exact hset⟩
    · obtain rfl : j = K.length := by omega
      rw [List.take_length] at hsr
      go_wp2_with fail
      go_ret
      exact ⟨_, rfl, hsr⟩

theorem markL_length (w : List Nat) (x : Nat) : (markL w x).length = w.length := by simp [markL]
theorem markL_lt {w : List Nat} (h : ∀ y ∈ w, y < 4) (x : Nat) : ∀ y ∈ markL w x, y < 4 := by
  intro y hy
  rcases List.mem_or_eq_of_mem_set hy with h1 | h1
  · exact h y h1
  · have hg : w.getD (x / 2) 0 < 4 := by
      by_cases hi : x / 2 < w.length
      · rw [List.getD_eq_getElem?_getD, List.getElem?_eq_getElem hi]; exact h _ (List.getElem_mem hi)
      · rw [List.getD_eq_getElem?_getD, List.getElem?_eq_none (Nat.le_of_not_lt hi)]; decide
    rw [h1]
    generalize w.getD (x / 2) 0 = b at *
    split <;> exact Nat.or_lt_two_pow (n := 2) (by omega) (by omega)

set_option maxHeartbeats 1000000 in
theorem mark_walk (w0 w : World) (l : List HP) (gs kw n : Nat) (W : List Nat) (h : SL.St w0 (Arr (cNat .u8) 5 (.slice (some ⟨gs, 0, none⟩) n n) W :: Blk kw (.cells #[.slice (some ⟨gs, 0, none⟩) n n] 86 (0, 0)) :: l) w) (hn : n ≤ 1073741824) (hW : ∀ y ∈ W, y < 4) (x : Nat) (hx : x / 2 < n) :
    Calls Try.prog 43 #[.int .u32 (x : Nat), .pointer (some ⟨kw, 0, none⟩)] w fun e w' =>
      e = .returned (.tuple #[]) ∧ SL.St w0 (Arr (cNat .u8) 5 (.slice (some ⟨gs, 0, none⟩) n n) (markL W x) :: Blk kw (.cells #[.slice (some ⟨gs, 0, none⟩) n n] 86 (0, 0)) :: l) w' := by
  have g0 := (h.pull 1).cell 0
  simp at g0
  have hlen : W.length = n := h.arr_lt.1.symm
  have hg : W.getD (x / 2) 0 = W[x / 2]'(by omega) := by simp [List.getD_eq_getElem?_getD, show x / 2 < W.length by omega]
  have hb : W[x / 2]'(by omega) < 4 := hW _ (List.getElem_mem _)
  have hget : W[x / 2]? = some (W[x / 2]'(by omega)) := List.getElem?_eq_getElem (by omega)
  have hM : markL W x = W.set (x / 2) (W[x / 2]'(by omega) ||| (if x % 2 = 1 then 2 else 1)) := by unfold markL; rw [hg]
  have hq : ((x : Nat) : Int) / 2 = ((x / 2 : Nat) : Int) := by omega
  have hxb : x < 4294967296 := by omega
  have hlt : x / 2 < W.length := by omega
  have ne : gs ≠ kw := h.apart claims_arr claims_blk
  rw [hM]
  clear hM hg
  have hbb : ∃ b : Nat, b = W[x / 2]'(by omega) := ⟨_, rfl⟩
  obtain ⟨b, hbb⟩ := hbb
  rw [← hbb] at hb hget ⊢
  clear hbb hlen
  have hor := fun (c : Nat) (hc : c < 256) => u8_or_nat b c (by omega) hc
  have set := fun c => h.arr_set1 rfl (x / 2) hlt c _ rfl
  obtain ⟨c0, c1⟩ := h.arr_cell1 rfl (x / 2) _ hget _ rfl
  generalize x / 2 = q at *
  by_cases ho : x % 2 = 1
  · have hm1 : (((x : Nat) : Int) % 2 == 1) = true := by
      have e : ((x : Int)) % 2 = ((x % 2 : Nat) : Int) := by omega
      rw [e, ho]; rfl
    have h2 := hor 2 (by decide)
    have hs := set (b ||| 2)
    rw [if_pos ho]
    have H2 := Lib.hid hget
    clear ho hor set hget
    rw [show ((2 : Nat) : Int) = 2 from rfl] at h2
    generalize b ||| 2 = bb at *
    go_enter Try.func43, Try.ntmps43
    go_wp2_with fail
    go_end0
    exact ⟨rfl, hs⟩
  · have hm1 : (((x : Nat) : Int) % 2 == 1) = false := by
      have e : ((x : Int)) % 2 = ((x % 2 : Nat) : Int) := by omega
      rw [e, show x % 2 = 0 by omega]; rfl
    have h2 := hor 1 (by decide)
    have hs := set (b ||| 1)
    rw [if_neg ho]
    have H2 := Lib.hid hget
    clear ho hor set hget
    rw [show ((1 : Nat) : Int) = 1 from rfl] at h2
    generalize b ||| 1 = bb at *
    go_enter Try.func43, Try.ntmps43
    go_wp2_with fail
    go_end0
    exact ⟨rfl, hs⟩
end Go.Proofs.Ytjeopmiopinlgaa
