/- Tseitin's Lift. -/
import Derived.Test.YtjeopmiopinlgaaTsL
import Derived.Test.YtjeopmiopinlgaaAigL0
import Derived.StillTailTactics
set_option linter.unusedVariables false
set_option linter.unusedSimpArgs false
namespace Go.Proofs.Ytjeopmiopinlgaa
open Go Go.RowKit SL

def liftStep (ns : Nodes) (m : List Int) (i : Nat) (n : Int) (a : List Bool) : List Bool :=
  if (nodeM ns n.toNat).1 = 1 then a.set (nodeM ns n.toNat).2.1 (decide (i < m.length) && (m.getD i 0 == 1)) else a
def liftFrom (ns : Nodes) (m : List Int) (a : List Bool) : Nat → List Int → List Bool
  | _, [] => a
  | i, n :: l => liftStep ns m i n (liftFrom ns m a (i + 1) l)
def liftM (ns : Nodes) (K : List Int) (m : List Int) : List Bool := liftFrom ns m (List.replicate (inputsOf ns).length false) 0 K
def inGraph (ns : Nodes) (K : List Int) : Prop := ∀ n ∈ K, 0 ≤ n ∧ n < ns.length
theorem liftStep_length (ns : Nodes) (m : List Int) (i : Nat) (n : Int) (a : List Bool) : (liftStep ns m i n a).length = a.length := by
  unfold liftStep; split <;> simp
theorem liftFrom_length (ns : Nodes) (m : List Int) (a : List Bool) (i : Nat) (K : List Int) : (liftFrom ns m a i K).length = a.length := by
  induction K generalizing i with
  | nil => rfl
  | cons n l ih => rw [liftFrom, liftStep_length, ih]

set_option maxRecDepth 100000 in
set_option maxHeartbeats 2000000 in
theorem Lift_bad (w0 w : World) (l : List HP) (g : Nat) (ns : Nodes) (h : SL.St w0 (Graph g ns :: l) w) (hl : ns.length ≤ 1048577) (vc vm : Value) (K : List Int) (hk : Ent l (Rd (cInt .i64) vc K)) (hkb : ∀ n ∈ K, -9223372036854775808 ≤ n ∧ n ≤ 9223372036854775807) (hx : ¬ inGraph ns K) :
    Calls Try.prog 26 #[.pointer (some ⟨g, 0, none⟩), vc, vm] w fun e w' => e = .returned (.tuple #[.slice none 0 0, .int .i64 100]) ∧ SL.St w0 (Graph g ns :: l) w' := by
  obtain ⟨A, c, hv, hm, -⟩ := hk.use h.drop
  subst hv
  unfold maxLen at hm
  have nw : ∀ wr, SL.St w0 (Graph g ns :: l) wr → Calls Try.prog 19 #[.pointer (some ⟨g, 0, none⟩)] wr fun e w' => wr = w' ∧ e = .returned (.int .i64 ns.length) := fun wr h => Nodes_walk w0 wr l g ns h
  have HX := Lib.hid hx; clear hx
  go_enter Try.func26, Try.ntmps26
  go_wp2_with fail
  go_loopg [19] K.length (fun k i wr => ∃ j : Nat, j ≤ K.length ∧ k = K.length - j ∧ i = .int .i64 j ∧ (∀ n ∈ K.take j, 0 ≤ n ∧ n < ns.length) ∧ SL.St w0 (Graph g ns :: l) wr)
  case atStart => exact ⟨0, Nat.zero_le _, rfl, rfl, by simp, h⟩
  case round =>
    clear h
    obtain ⟨j, hj, hgk, rfl, hall, hsr⟩ := hrel
    subst hgk
    have HA := Lib.hid hall; clear hall
    by_cases hlt : j < K.length
    · obtain ⟨A', c', hv, -, hc⟩ := hk.use hsr.drop
      obtain ⟨ad, hA', hcell⟩ := rd_at_int hc j hlt
      obtain rfl : A = some ad := by
        have : A' = A := by injection hv with h1; exact h1.symm
        rw [← this]; exact hA'
      have hb := hkb _ (List.getElem_mem hlt)
      have HT := Lib.hid (show (0 ≤ K[j] ∧ K[j] < ns.length) → ∀ n ∈ K.take (j + 1), 0 ≤ n ∧ n < ns.length from fun h n hn => by
        rw [List.take_succ_eq_append_getElem hlt] at hn
        rcases List.mem_append.1 hn with h1 | h1
        · exact HA.out n h1
        · rw [List.mem_singleton.1 h1]; exact h)
      have HN := nw _ hsr
      clear hc hv hA' hkb
      generalize K[j] = n at *
      by_cases h1 : n < 0
      · have d1 : decide (n < 0) = true := by simp [h1]
        go_wp2_with fail
        go_ret2
        exact ⟨rfl, hsr⟩
      have d1 : decide (n < 0) = false := by simp; omega
      have h1' : 0 ≤ n := by omega
      clear h1
      by_cases h2 : n < ns.length
      · have d2 : decide ((ns.length : Int) ≤ n) = false := by simp; omega
        have d3 : decide (n ≥ (ns.length : Int)) = false := by simp; omega
        go_wp2_with (go_at_call 19; refine HN.mono ?_; rintro e w' ⟨rfl, rfl⟩)
        go_roundg (K.length - (j + 1))
        case measure => omega
        case rel => exact ⟨j + 1, by omega, rfl, by go_num, HT.out ⟨h1', h2⟩, hsr⟩
      · have d2 : decide ((ns.length : Int) ≤ n) = true := by simp; omega
        have d3 : decide (n ≥ (ns.length : Int)) = true := by simp; omega
        go_wp2_with (go_at_call 19; refine HN.mono ?_; rintro e w' ⟨rfl, rfl⟩)
        go_ret2
        exact ⟨rfl, hsr⟩
    · obtain rfl : j = K.length := by omega
      exfalso
      have := HA.out
      rw [List.take_length] at this
      exact HX.out this
theorem Lift_nil (w : World) (vc vm : Value) :
    Calls Try.prog 26 #[.pointer none, vc, vm] w fun e w' => w = w' ∧ e = .returned (.tuple #[.slice none 0 0, .int .i64 2]) := by
  go_enter Try.func26, Try.ntmps26
  go_wp2_with fail
  go_ret2
  exact ⟨rfl, rfl⟩

set_option maxRecDepth 100000 in
set_option maxHeartbeats 8000000 in
theorem Lift_walk (w0 w : World) (l : List HP) (g : Nat) (ns : Nodes) (h : SL.St w0 (Graph g ns :: l) w) (hwi : WfIn ns) (hl : ns.length ≤ 1048577) (vc vm : Value) (K m : List Int) (hk : Ent l (Rd (cInt .i64) vc K)) (hm : Ent l (Rd (cInt .i8) vm m)) (hx : inGraph ns K) :
    Calls Try.prog 26 #[.pointer (some ⟨g, 0, none⟩), vc, vm] w fun e w' => ∃ vo, e = .returned (.tuple #[vo, .int .i64 0]) ∧ SL.St w0 (Arr cBool 4 vo (liftM ns K m) :: Graph g ns :: l) w' := by
  have hinl := inputsOf_length ns
  obtain ⟨A, c, hv, hml, -⟩ := hk.use h.drop
  subst hv
  obtain ⟨Am, cm, hv, hmm, -⟩ := hm.use h.drop
  subst hv
  unfold maxLen at hml hmm
  have hLM : liftM ns K m = liftFrom ns m (List.replicate (inputsOf ns).length false) 0 K := rfl
  generalize liftM ns K m = LM at hLM ⊢
  have HLM := Lib.hid hLM; clear hLM
  have nw : ∀ wr, SL.St w0 (Graph g ns :: l) wr → Calls Try.prog 19 #[.pointer (some ⟨g, 0, none⟩)] wr fun e w' => wr = w' ∧ e = .returned (.int .i64 ns.length) := fun wr h => Nodes_walk w0 wr l g ns h
  have hmk := run_make_row' (P := Try.prog) 48 4 (.bool false) 1 Try.underlying48 infoBool rfl .i64 .i64 (inputsOf ns).length (by omega) (by omega)
  have HX := Lib.hid hx; clear hx
  go_enter Try.func26, Try.ntmps26
  go_wp2_with fail
  go_loopg [19] K.length (fun k i wr => ∃ j : Nat, j ≤ K.length ∧ k = K.length - j ∧ i = .int .i64 j ∧ SL.St w0 (Graph g ns :: l) wr)
  case atStart => exact ⟨0, Nat.zero_le _, rfl, rfl, h⟩
  case round =>
    clear h
    obtain ⟨j, hj, hgk, rfl, hsr⟩ := hrel
    subst hgk
    by_cases hlt : j < K.length
    · obtain ⟨A', c', hv, -, hc⟩ := hk.use hsr.drop
      obtain ⟨ad, hA', hcell⟩ := rd_at_int hc j hlt
      obtain rfl : A = some ad := by
        have : A' = A := by injection hv with h1; exact h1.symm
        rw [← this]; exact hA'
      obtain ⟨h1, h2⟩ := HX.out _ (List.getElem_mem hlt)
      have HN := nw _ hsr
      clear hc hv hA' hmk
      generalize K[j] = n at *
      have d1 : decide (n < 0) = false := by simp; omega
      have d2 : decide ((ns.length : Int) ≤ n) = false := by simp; omega
      have d3 : decide (n ≥ (ns.length : Int)) = false := by simp; omega
      go_wp2_with (go_at_call 19; refine HN.mono ?_; rintro e w' ⟨rfl, rfl⟩)
      go_roundg (K.length - (j + 1))
      case measure => omega
      case rel => exact ⟨j + 1, by omega, rfl, by go_num, hsr⟩
    · obtain rfl : j = K.length := by omega
      have iw := Inputs_walk w0 wr l g ns hsr
      have h2 := (hsr.alloc (.cells (madeCells #[Value.bool false] (inputsOf ns).length) 4)).arr_made (d := cBool) rfl (x := false) rfl (by unfold maxLen; omega)
      go_wp2_with (go_at_call 48; refine iw.mono ?_; rintro e w' ⟨rfl, rfl⟩)
      generalize wr.heap.size = gs at h2 ⊢
      generalize World.alloc wr _ = w2 at h2 ⊢
      clear hmk hsr iw nw
      have hwi' := hwi
      have HWI := Lib.hid hwi'; clear hwi hwi'
      generalize hN : (inputsOf ns).length = N at *
      have HNN := Lib.hid hN; clear hN
      go_loopg [11] K.length (fun k i wr => ∃ j : Nat, j ≤ K.length ∧ j = k ∧ i = .int .i64 ((j : Int) - 1) ∧ SL.St w0 (Arr cBool 4 (.slice (some ⟨gs, 0, none⟩) N N) (liftFrom ns m (List.replicate N false) j (K.drop j)) :: Graph g ns :: l) wr)
      case atStart => exact ⟨K.length, Nat.le_refl _, rfl, rfl, by rw [List.drop_length]; exact h2⟩
      case round =>
        clear h2
        obtain ⟨j, hj, hgk, rfl, hsr⟩ := hrel
        subst hgk
        by_cases h0 : j = 0
        · subst h0
          rw [List.drop_zero] at hsr
          go_wp2_with fail
          go_ret2
          refine ⟨_, rfl, ?_⟩
          rw [HLM.out]
          exact hsr
        · obtain ⟨j, rfl⟩ : ∃ m, j = m + 1 := ⟨j - 1, by omega⟩
          have hlt : j < K.length := by omega
          rw [show ((j + 1 : Nat) : Int) - 1 = (j : Int) by omega]
          obtain ⟨A', c', hv, -, hc⟩ := hk.use hsr.drop.drop
          obtain ⟨ad, hA', hcell⟩ := rd_at_int hc j hlt
          obtain rfl : A = some ad := by
            have : A' = A := by injection hv with h1; exact h1.symm
            rw [← this]; exact hA'
          have HT := Lib.hid (show liftFrom ns m (List.replicate N false) j (K.drop j) = liftStep ns m j K[j] (liftFrom ns m (List.replicate N false) (j + 1) (K.drop (j + 1))) by rw [List.drop_eq_getElem_cons hlt, liftFrom])
          have hfl := liftFrom_length ns m (List.replicate N false) (j + 1) (K.drop (j + 1))
          rw [List.length_replicate] at hfl
          obtain ⟨hn1, hn2⟩ := HX.out _ (List.getElem_mem hlt)
          clear hc hv hA' h0
          generalize liftFrom ns m (List.replicate N false) (j + 1) (K.drop (j + 1)) = a at *
          generalize K[j] = n at *
          obtain ⟨n, rfl⟩ := Int.eq_ofNat_of_zero_le hn1
          have hn3 : n < ns.length := by omega
          clear hn1 hn2
          have HFL := Lib.hid hfl; clear hfl
          go_wp2_with fail
          refine (Node_walk w0 wr _ g ns hsr.swap n hn3 (by omega)).mono ?_
          rintro e w2 ⟨rfl, h2⟩
          clear hsr
          have hls : liftStep ns m j (n : Int) a = if (nodeM ns n).1 = 1 then a.set (nodeM ns n).2.1 (decide (j < m.length) && (m.getD j 0 == 1)) else a := by
            unfold liftStep; rw [Int.toNat_natCast]
          generalize liftStep ns m j (n : Int) a = LS at *
          have hka : (nodeM ns n).1 = 1 → (nodeM ns n).2.1 < N := by
            intro h1
            unfold nodeM at h1 ⊢
            by_cases hn0 : n = 0
            · rw [if_pos hn0] at h1; simp at h1
            rw [if_neg hn0] at h1 ⊢
            by_cases hm0 : (ns.getD n (0, 0)).1 = mark
            · rw [if_pos hm0]
              rw [← HNN.out]
              exact HWI.out n hn3 hn0 (by unfold isGate; simp [hn0]; exact hm0)
            · rw [if_neg hm0] at h1; simp at h1
          generalize nodeM ns n = M at *
          obtain ⟨M1, X, Y⟩ := M
          simp only at hls hka ⊢
          by_cases h1 : M1 = 1
          · have e1 : ((M1 : Int) == 1) = true := by simp [h1]
            have hX := hka h1
            rw [if_pos h1] at hls
            clear h1 hka
            have h3 := (h2.alloc (.cells #[.int .u32 (X : Nat), .int .u32 (Y : Nat)] 91)).sel [2, 1, 0]
            go_wp2_with fail
            generalize w2.heap.size = kk at h3 ⊢
            generalize World.alloc w2 _ = w3 at h3 ⊢
            clear h2
            have k0 : w3.cell? ⟨kk, 0, none⟩ = some (.int .u32 (X : Nat)) := (h3.pull 2).cell 0
            have r0 := Ext.rule k0
            by_cases hjm : j < m.length
            · obtain ⟨B', c', hv, -, hc⟩ := hm.use (h3.sel [] 3)
              obtain ⟨bd, hB', hcell2⟩ := rd_at_int hc j hjm
              obtain rfl : Am = some bd := by
                have : B' = Am := by injection hv with h1; exact h1.symm
                rw [← this]; exact hB'
              have hgd : m.getD j 0 = m[j] := by simp [List.getD_eq_getElem?_getD, hjm]
              have d1 : decide ((j : Int) < (m.length : Int)) = true := by simp; omega
              rw [decide_eq_true hjm, Bool.true_and, hgd] at hls
              clear hc hv hB' hgd
              generalize m[j] = y at *
              have r1 := Ext.rule hcell2
              have HLS := Lib.hid hls; clear hls
              obtain ⟨c0, c1⟩ := h3.arr_cell1 rfl X _ (List.getElem?_eq_getElem (by rw [HFL.out]; exact hX)) _ rfl
              have hset := fun b => SL.St.drew (h3.arr_set1 rfl X (by rw [HFL.out]; exact hX) b _ rfl)
              have HSET := Lib.hid hset; clear hset
              go_still_tail 14, (by kernel_rfl)
              change wpList _ _ _ _ _ w3.drew
              go_wp2_with fail
              go_roundg j
              case measure => omega
              case rel => exact ⟨j, by omega, rfl, rfl, by rw [HT.out, HLS.out]; exact (HSET.out _).sel [0, 1] 1⟩
            · have d1 : decide ((j : Int) < (m.length : Int)) = false := by simp; omega
              rw [decide_eq_false hjm, Bool.false_and] at hls
              have HLS := Lib.hid hls; clear hls
              obtain ⟨c0, c1⟩ := h3.arr_cell1 rfl X _ (List.getElem?_eq_getElem (by rw [HFL.out]; exact hX)) _ rfl
              have hset := fun b => SL.St.drew (h3.arr_set1 rfl X (by rw [HFL.out]; exact hX) b _ rfl)
              have HSET := Lib.hid hset; clear hset
              go_still_tail 14, (by kernel_rfl)
              change wpList _ _ _ _ _ w3.drew
              go_wp2_with fail
              go_roundg j
              case measure => omega
              case rel => exact ⟨j, by omega, rfl, rfl, by rw [HT.out, HLS.out]; exact (HSET.out _).sel [0, 1] 1⟩
          · have e1 : ((M1 : Int) == 1) = false := by simp; omega
            rw [if_neg h1] at hls
            have HLS := Lib.hid hls; clear h1 hka hls
            have h3 := (h2.alloc (.cells #[.int .u32 (X : Nat), .int .u32 (Y : Nat)] 91)).sel [2, 1] 1
            go_wp2_with fail
            go_roundg j
            case measure => omega
            case rel => exact ⟨j, by omega, rfl, rfl, by rw [HT.out, HLS.out]; exact h3⟩
end Go.Proofs.Ytjeopmiopinlgaa
