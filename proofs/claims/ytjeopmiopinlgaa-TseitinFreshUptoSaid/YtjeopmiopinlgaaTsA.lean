/- The reference's graph: And. -/
import Derived.Test.YtjeopmiopinlgaaTsM
/- The reference's graph in memory: New, Input, May. -/
set_option linter.unusedVariables false
set_option linter.unusedSimpArgs false
namespace Go.Proofs.Ytjeopmiopinlgaa
open Go Go.RowKit SL

def cNode : Cd (Nat × Nat × Nat) := ⟨3, fun p => [.int .i64 p.1, .int .u32 p.2.1, .int .u32 p.2.2], fun _ => rfl, by simp [Value.oneCell'], by decide⟩
def RGraph (r : Nat) (L : List (Nat × Nat × Nat)) (n : Nat) : HP := fun h => ∃ vL, All [Blk r (.cells #[vL, .int .i64 (n : Nat)] 46 (0, 0)), Arr cNode 111 vL L] h
theorem St.rgraph {w0 w : World} {l : List HP} {r n : Nat} {L : List (Nat × Nat × Nat)} (h : SL.St w0 (RGraph r L n :: l) w) :
    ∃ vL, SL.St w0 (Blk r (.cells #[vL, .int .i64 (n : Nat)] 46 (0, 0)) :: Arr cNode 111 vL L :: l) w := by
  obtain ⟨vL, h⟩ := SL.St.ex h
  exact ⟨vL, SL.St.flat h⟩
theorem St.mkR {w0 w : World} {l : List HP} {r n : Nat} {L : List (Nat × Nat × Nat)} {vL : Value}
    (h : SL.St w0 (Blk r (.cells #[vL, .int .i64 (n : Nat)] 46 (0, 0)) :: Arr cNode 111 vL L :: l) w) : SL.St w0 (RGraph r L n :: l) w :=
  (SL.St.fold (l := [_, _]) h).imp fun _ p => ⟨vL, p⟩
theorem infoNode : (Try.prog.info? 111).map (fun i => (i.zero, i.size, i.bytes)) = some (some (.agg #[.int .i64 0, .int .u32 0, .int .u32 0]), 3, 16) := by kernel_rfl

theorem rnew_walk (w0 w : World) (l : List HP) (h : SL.St w0 l w) :
    Calls Try.prog 33 #[] w fun e w' => ∃ r, e = .returned (.pointer (some ⟨r, 0, none⟩)) ∧ SL.St w0 (RGraph r [(0, 0, 0)] 0 :: l) w' := by
  have hs := (h.alloc (.cells #[.int .i64 0, .int .u32 0, .int .u32 0] 111)).alloc (.cells #[.slice (some ⟨w.heap.size, 0, none⟩) 1 1, .int .i64 0] 46 (0, 0))
  simp only [World.size_alloc] at hs
  go_enter Try.func33, Try.ntmps33
  go_wp2_with fail
  go_ret
  exact ⟨_, rfl, St.mkR (((hs.pull 1).arr_lit (d := cNode) (n := 1) (xs := [(0, 0, 0)]) rfl rfl (by decide)).swap)⟩

theorem rmay_walk (w0 w : World) (l : List HP) (r n : Nat) (L : List (Nat × Nat × Nat)) (h : SL.St w0 (RGraph r L n :: l) w) (x : Nat) (hx : x < 4294967296) :
    Calls Try.prog 61 #[.pointer (some ⟨r, 0, none⟩), .int .u32 (x : Nat)] w fun e w' => w = w' ∧ e = .returned (.bool (decide (x / 2 < L.length))) := by
  obtain ⟨vL, hs⟩ := St.rgraph h
  obtain ⟨A, c, rfl, hm, -⟩ := (hs.pull 1).rd
  have g0 : w.cell? ⟨r, 0, none⟩ = some (.slice A L.length c) := hs.cell 0
  have hq : (x : Int) / 2 = ((x / 2 : Nat) : Int) := by omega
  generalize x / 2 = q at *
  go_enter Try.func61, Try.ntmps61
  go_wp2
  go_ret
  exact ⟨rfl, rfl⟩

set_option maxHeartbeats 1000000 in
theorem rinput_walk (w0 w : World) (l : List HP) (r n : Nat) (L : List (Nat × Nat × Nat)) (h : SL.St w0 (RGraph r L n :: l) w) (hL : L.length < 1073741824) (hn : n < 1073741824) :
    Calls Try.prog 35 #[.pointer (some ⟨r, 0, none⟩)] w fun e w' =>
      e = .returned (.tuple #[.int .u32 (2 * L.length : Nat), .int .i64 0]) ∧ SL.St w0 (RGraph r (L ++ [(1, n, 0)]) (n + 1) :: l) w' := by
  obtain ⟨vL, hs⟩ := St.rgraph h
  obtain ⟨A, c, rfl, hm, -⟩ := (hs.pull 1).rd
  have g0 : w.cell? ⟨r, 0, none⟩ = some (.slice A L.length c) := hs.cell 0
  have g1 : w.cell? ⟨r, 1, none⟩ = some (.int .i64 (n : Nat)) := hs.cell 1
  have hu : IntKind.u32.wrap (n : Int) = (n : Int) := IntWalk.u32_in _ (by omega)
  have r0 := Ext.rule g0
  have r1 := Ext.rule g1
  go_enter Try.func35, Try.ntmps35
  go_wp2_with fail
  -- region 1 of (*cadence/cadenceref10.Graph).Input: 0:move 1:move 2:nilCheck 3:fieldAddr 4:load 5:move 6:nilCheck 7:fieldAddr 8:load 9:convert 10:build 11:buildSlice 12:call append 13:nilCheck 14:fieldAddr 15:store
  refine wp_region_plan (Ext w) [(0, 0), (1, 0), (2, 0), (3, 0), (4, 1), (5, 1), (6, 1), (7, 1), (8, 1), (9, 1), (10, 1), (11, 2)] 12 (by kernel_rfl) (by kernel_rfl) ?_
  have hx0 : Ext w w.drew := Ext.refl w
  iterate 4 (first | (refine plan_skip rfl rfl ?_; simp only [Act.put, List.setIfInBounds_toArray, List.set_cons_zero, List.set_cons_succ]) | (refine plan_pure (v := ?_) rfl rfl (fun _ => ?_) ?_; rotate_left; (focus (go_simp; try with_reducible rfl; done)); simp only [Act.put, List.setIfInBounds_toArray, List.set_cons_zero, List.set_cons_succ]))
  iterate 7 (first | (refine plan_held_skip rfl rfl (by assumption) ?_; simp only [Act.put, List.setIfInBounds_toArray, List.set_cons_zero, List.set_cons_succ]) | (refine plan_held (v := ?_) rfl rfl (fun _ hSw => ?_) (by assumption) ?_; rotate_left; (focus (go_simp; try with_reducible rfl; done)); simp only [Act.put, List.setIfInBounds_toArray, List.set_cons_zero, List.set_cons_succ]))
  ((refine plan_eff rfl (fun K hK => ?_)); go_simp; (refine hK _ _ ⟨by repeat (first | exact Ext.refl _ | apply Ext.drew | apply Ext.alloc), ?_⟩); clear hK K)
  -- (Ext behind op 11)
  refine plan_end ?_
  simp only [List.drop]
  go_wp2_with (first | (at_builtin; go_loud (refine wpList_app rfl _ _ rfl Try.underlying44 infoNode rfl (((hs.alloc _).drew.pull 2)) rfl (ys := [(1, n, 0)]) rfl ((hs.alloc _).drew.rd_blk (ys := [(1, n, 0)]) 1 1 rfl rfl (by decide)) (by simp; omega) (by simp; omega) ?_); intro v' w1 hs1; obtain ⟨An', cn', rfl, _, _⟩ := hs1.rd; have g0' : w1.cell? ⟨r, 0, none⟩ = some (.slice A L.length c) := (hs1.pull 2).cell 0; have f0' := (hs1.pull 2).free 0))
  have hs2 := ((hs1.pull 2).set 0 (.slice An' (L.length + 1) cn')).sel [0, 1] 1
  generalize w1.setCell _ _ = w2 at hs2 ⊢
  clear g0' f0' r0 r1 g0 g1 hx0
  have g0 : w2.cell? ⟨r, 0, none⟩ = some (.slice An' (L.length + 1) cn') := hs2.cell 0
  have g1 : w2.cell? ⟨r, 1, none⟩ = some (.int .i64 (n : Nat)) := hs2.cell 1
  have f1 := hs2.free 1
  refine NoPanic.normal ?_
  go_wp2_with fail
  go_ret2
  refine ⟨by simp, ?_⟩
  have hs3 := hs2.set 1 (.int .i64 ((n : Int) + 1))
  simp only [List.length_append, List.length_singleton] at hs3
  exact St.mkR (n := n + 1) hs3
end Go.Proofs.Ytjeopmiopinlgaa
set_option linter.unusedVariables false
set_option linter.unusedSimpArgs false
namespace Go.Proofs.Ytjeopmiopinlgaa
open Go Go.RowKit SL

theorem xor_walk {w : World} {a : Nat} (h : a < 4294967296) : Go.bits .xor .u32 (a : Int) 1 = (notL a : Nat) := by
  have := u32_xor_nat a 1 h (by omega)
  rw [xor_one, show ((1 : Nat) : Int) = 1 from rfl] at this
  exact this
theorem lookIn_first {p : Nat × Nat} : ∀ (m : List ((Nat × Nat) × Nat)) (i : Nat) (x : Nat), (p, x) ∈ m → (∀ y, (p, y) ∈ m → y = x) → ∃ j, lookIn p m i = some (j, x) := by
  intro m
  induction m with
  | nil => intro i x h; cases h
  | cons y m ih =>
    intro i x h hu
    obtain ⟨q, z⟩ := y
    simp only [lookIn]
    by_cases e : p = q
    · subst e
      rw [if_pos rfl, hu z List.mem_cons_self]
      exact ⟨i, rfl⟩
    · rw [if_neg e]
      refine ih (i + 1) x ?_ fun y hy => hu y (List.mem_cons_of_mem _ hy)
      rcases List.mem_cons.1 h with h1 | h1
      · cases h1; exact absurd rfl e
      · exact h1
/-- No two gates are alike. -/
def Uniq (ns : Nodes) : Prop := ∀ i j p, ns[i]? = some p → ns[j]? = some p → i ≠ 0 → j ≠ 0 → p.1 ≠ mark → i = j
theorem look_found {ns : Nodes} (hu : Uniq ns) {a b i : Nat} (hi : i < ns.length) (h : nodeM ns i = (2, a, b)) : ∃ j, lookIn (a, b) (gatesOf ns) 0 = some (j, 2 * i) := by
  have hm := search_some hi h
  refine lookIn_first _ _ _ hm fun y hy => ?_
  obtain ⟨k, hk, hk0, hkm, rfl⟩ := mem_gatesOf.1 hy
  obtain ⟨k', hk', hk0', _, he⟩ := mem_gatesOf.1 hm
  have : k' = i := by omega
  subst this
  rw [hu k k' (a, b) hk hk' hk0 hk0' hkm]
theorem look_not {ns : Nodes} {a b : Nat} (h : ∀ i, i < ns.length → nodeM ns i ≠ (2, a, b)) : lookIn (a, b) (gatesOf ns) 0 = none := by
  cases hl : lookIn (a, b) (gatesOf ns) 0 with
  | none => rfl
  | some y =>
    obtain ⟨j, x⟩ := y
    obtain ⟨i, hi, h0, hm, rfl⟩ := mem_gatesOf.1 (lookIn_mem hl)
    have hlt := (List.getElem?_eq_some_iff.1 hi).1
    refine absurd ?_ (h i hlt)
    have hg : ns.getD i (0, 0) = (a, b) := by rw [List.getD_eq_getElem?_getD, hi]; rfl
    unfold nodeM
    rw [hg, if_neg h0, if_neg hm]
theorem Uniq.nil : Uniq [(0, 0)] := by
  intro i j p hi hj h0 _ _
  have := (List.getElem?_eq_some_iff.1 hi).1
  simp at this; omega
theorem Uniq.snoc_mark {ns : Nodes} (h : Uniq ns) (k : Nat) : Uniq (ns ++ [(mark, k)]) := by
  intro i j p hi hj h0 h1 hm
  rw [List.getElem?_append] at hi hj
  split at hi <;> split at hj
  · exact h i j p hi hj h0 h1 hm
  all_goals
    first
    | (have e := List.mem_of_getElem? hi; rw [List.mem_singleton.1 e] at hm; exact absurd rfl hm)
    | (have e := List.mem_of_getElem? hj; rw [List.mem_singleton.1 e] at hm; exact absurd rfl hm)
theorem Uniq.and {ns : Nodes} (h : Uniq ns) (a b : Nat) (ha : a ≠ mark) : Uniq (andM ns a b).2 := by
  unfold andM
  split
  · exact h
  split
  · exact h
  split
  · exact h
  cases hl : lookIn (a, b) (gatesOf ns) 0 with
  | some y => exact h
  | none =>
    have hno := lookIn_none hl
    have key : ∀ i, i ≠ 0 → ns[i]? = some (a, b) → False := fun i h0 hi => hno (2 * i) (mem_gatesOf.2 ⟨i, hi, h0, ha, rfl⟩)
    intro i j p hi hj h0 h1 hm
    simp only at hi hj
    rw [List.getElem?_append] at hi hj
    split at hi <;> split at hj
    · exact h i j p hi hj h0 h1 hm
    · have e := List.mem_of_getElem? hj; rw [List.mem_singleton.1 e] at hi; exact (key i h0 hi).elim
    · have e := List.mem_of_getElem? hi; rw [List.mem_singleton.1 e] at hj; exact (key j h1 hj).elim
    · have e1 := (List.getElem?_eq_some_iff.1 hi).1; have e2 := (List.getElem?_eq_some_iff.1 hj).1
      simp at e1 e2; omega

theorem rand_end {w0 w : World} {l : List HP} {r n : Nat} {ns ns' : Nodes} {a b x : Nat} (h : andM ns a b = (x, ns')) {v : Value} (hv : v = .int .u32 (x : Nat)) (hs : SL.St w0 (RGraph r (rnodes ns') n :: l) w) :
    Ending.returned v = .returned (.int .u32 ((andM ns a b).1 : Nat)) ∧ SL.St w0 (RGraph r (rnodes (andM ns a b).2) n :: l) w := by
  rw [h, hv]; exact ⟨rfl, hs⟩
theorem nodeM_lt {ns : Nodes} {i : Nat} : (nodeM ns i).1 ≤ 2 := by
  unfold nodeM; split
  · simp
  · split <;> simp

set_option maxRecDepth 100000 in
set_option maxHeartbeats 2000000 in
theorem rand_walk (w0 w : World) (l : List HP) (r n : Nat) (ns : Nodes) (h : SL.St w0 (RGraph r (rnodes ns) n :: l) w) (hn : ns.length < 1073741824) (h0 : ns.length ≠ 0) (hu : Uniq ns) (a b : Nat) (ha : a < 4294967295) (hb : b < 4294967295) :
    Calls Try.prog 62 #[.pointer (some ⟨r, 0, none⟩), .int .u32 (a : Nat), .int .u32 (b : Nat)] w fun e w' =>
      e = .returned (.int .u32 ((andM ns a b).1 : Nat)) ∧ SL.St w0 (RGraph r (rnodes (andM ns a b).2) n :: l) w' := by
  have f : ∀ {x y : Nat}, x ≠ y → ((x : Int) == (y : Int)) = false := fun h => by simp; omega
  have X := xor_walk (w := w) (show b < 4294967296 by omega)
  by_cases a0 : a = 0
  · subst a0
    go_enter Try.func62, Try.ntmps62
    go_wp2
    go_ret; exact rand_end (andM_0 (.inl rfl)) (by simp) h
  have e1 : ((a : Int) == 0) = false := f a0
  by_cases b0 : b = 0
  · subst b0
    go_enter Try.func62, Try.ntmps62
    go_wp2
    go_ret; exact rand_end (andM_0 (.inr (.inl rfl))) (by simp) h
  have e2 : ((b : Int) == 0) = false := f b0
  by_cases c0 : a = notL b
  · have e3 : ((a : Int) == (notL b : Nat)) = true := by simp [c0]
    clear f
    have C0 := Lib.hid c0; clear c0
    go_enter Try.func62, Try.ntmps62
    go_wp2
    go_ret; exact rand_end (andM_0 (.inr (.inr C0.out))) (by simp) h
  have e3 := f c0
  have hA : ¬ (a = 0 ∨ b = 0 ∨ a = notL b) := by omega
  have HA := Lib.hid hA
  clear a0 b0 c0 hA
  by_cases a1 : a = 1
  · have e4 : ((a : Int) == 1) = true := by simp [a1]
    have C1 := Lib.hid a1; clear a1
    clear f
    go_enter Try.func62, Try.ntmps62
    go_wp2
    go_ret; exact rand_end (andM_1 HA.out (.inl C1.out)) (by simp) h
  have e4 : ((a : Int) == 1) = false := f a1
  by_cases ab : a = b
  · have e5 : ((a : Int) == (b : Int)) = true := by simp [ab]
    have C1 := Lib.hid ab; clear ab
    clear f
    go_enter Try.func62, Try.ntmps62
    go_wp2
    go_ret; exact rand_end (andM_1 HA.out (.inr C1.out)) (by simp) h
  have e5 := f ab
  have HB := Lib.hid (show ¬ (a = 1 ∨ a = b) by omega)
  clear a1 ab
  by_cases b1 : b = 1
  · have e6 : ((b : Int) == 1) = true := by simp [b1]
    have C1 := Lib.hid b1; clear b1
    clear f
    go_enter Try.func62, Try.ntmps62
    go_wp2
    go_ret; exact rand_end (andM_2 HA.out HB.out C1.out) (by simp) h
  have e6 : ((b : Int) == 1) = false := f b1
  have HC := Lib.hid b1
  have hM := Lib.hid (andM_3 (ns := ns) HA.out HB.out b1)
  clear b1
  obtain ⟨vL, hs⟩ := St.rgraph h
  have hrl := rnodes_length ns
  obtain ⟨gL, c, hv⟩ := (hs.pull 1).arr_form (by omega)
  rw [hrl] at hv
  subst hv
  have g0 : w.cell? ⟨r, 0, none⟩ = some (.slice (some ⟨gL, 0, none⟩) ns.length c) := hs.cell 0
  have HU := Lib.hid hu; have HR := Lib.hid hrl
  clear hu hrl
  go_enter Try.func62, Try.ntmps62
  go_wp2
  clear X e1 e2 e3 e4 e5 e6
  go_loop [7] (fun i => ∃ k : Nat, k ≤ ns.length ∧ i = .int .i64 k ∧ ∀ j, j < k → nodeM ns j ≠ (2, a, b)) (fun i => ns.length - (intOf i).toNat)
  case atStart => exact ⟨0, Nat.zero_le _, rfl, fun j hj => by omega⟩
  case round =>
    obtain ⟨k, hk, rfl, hno⟩ := hrel
    have HN := Lib.hid hno; clear hno
    by_cases hlt : k < ns.length
    · have hx := rnodes_get hlt
      have n0 := ((SL.St.pull hs 1).arr_cell _ _ hx 0 _ rfl).1
      have n1 := ((SL.St.pull hs 1).arr_cell _ _ hx 1 _ rfl).1
      have n2 := ((SL.St.pull hs 1).arr_cell _ _ hx 2 _ rfl).1
      clear hx
      have nxt : nodeM ns k ≠ (2, a, b) → ∀ j, j < k + 1 → nodeM ns j ≠ (2, a, b) := fun hne j hj => by
        by_cases e : j = k
        · rw [e]; exact hne
        · exact HN.out j (by omega)
      have hit : nodeM ns k = (2, a, b) → ∃ j, lookIn (a, b) (gatesOf ns) 0 = some (j, 2 * k) := fun he => look_found HU.out hlt he
      have NXT := Lib.hid nxt; have HIT := Lib.hid hit; clear nxt hit
      simp only [cNode, Nat.add_zero] at n0 n1 n2
      generalize nodeM ns k = x at *
      obtain ⟨K, A, B⟩ := x
      simp only at n0 n1 n2 NXT HIT
      by_cases hK : K = 2
      · have d1 : ((K : Int) == 2) = true := by simp [hK]
        by_cases hA : A = a
        · have d2 : ((A : Int) == (a : Int)) = true := by simp [hA]
          by_cases hB : B = b
          · have d3 : ((B : Int) == (b : Int)) = true := by simp [hB]
            have HIT := HIT.out (by rw [hK, hA, hB])
            have HI := Lib.hid HIT; clear HIT NXT hK hA hB f
            go_wp2
            go_ret
            obtain ⟨j, hj⟩ := HI.out
            refine rand_end (hM.out.trans (by rw [hj])) (by simp) h
          · have d3 := f hB
            have NX := Lib.hid (NXT.out (by simp [hB])); clear NXT HIT hK hA hB f
            go_wp2
            go_round
            case rel => exact ⟨k + 1, by omega, by go_num, NX.out⟩
            case measure => simp [intOf]; omega
        · have d2 := f hA
          have NX := Lib.hid (NXT.out (by simp [hA])); clear NXT HIT hK hA f
          go_wp2
          go_round
          case rel => exact ⟨k + 1, by omega, by go_num, NX.out⟩
          case measure => simp [intOf]; omega
      · have d1 : ((K : Int) == 2) = false := f hK
        have NX := Lib.hid (NXT.out (by simp [hK])); clear NXT HIT hK f
        go_wp2
        go_round
        case rel => exact ⟨k + 1, by omega, by go_num, NX.out⟩
        case measure => simp [intOf]; omega
    · obtain rfl : k = ns.length := by omega
      have hl := Lib.hid (look_not HN.out)
      clear f
      go_wp2_with (first | (at_builtin; go_loud (refine wpList_app rfl _ _ rfl Try.underlying44 infoNode rfl (((hs.alloc _).pull 2)) rfl (ys := [(2, a, b)]) rfl ((hs.alloc _).rd_blk (ys := [(2, a, b)]) 1 1 rfl rfl (by decide)) (by rw [HR.out]; simp; omega) (by rw [HR.out]; simp; omega) ?_); intro v' w1 hs1; obtain ⟨An', cn', rfl, _, _⟩ := hs1.rd; have g0' : w1.cell? ⟨r, 0, none⟩ = some (.slice (some ⟨gL, 0, none⟩) ns.length c) := (hs1.pull 2).cell 0; have f0' := (hs1.pull 2).free 0))
      simp only [List.length_append, List.length_singleton, HR.out] at hs1 ⊢
      have hs2 := ((hs1.pull 2).set 0 (.slice An' (ns.length + 1) cn')).sel [0, 1] 1
      generalize w1.setCell _ _ = w2 at hs2 ⊢
      clear g0' f0' g0
      have g0 : w2.cell? ⟨r, 0, none⟩ = some (.slice An' (ns.length + 1) cn') := hs2.cell 0
      go_wp2_with fail
      go_ret
      refine rand_end (hM.out.trans (by rw [hl.out])) (by simp; unfold wrap64; omega) ?_
      rw [rnodes_gate h0 (by unfold mark; omega)]
      exact St.mkR hs2
end Go.Proofs.Ytjeopmiopinlgaa
