/- What Sim and Eval answer: the nodes' values. Plain laws. -/
import Derived.Test.YtjllogellpfpkaaDoorAigV
set_option linter.unusedVariables false
set_option linter.unusedSimpArgs false
namespace Go.Proofs.YtjllogellpfpkaaDoor

def valF (ns : Nodes) (inp : Nat → Bool) : Nat → Nat → Bool
  | 0, _ => false
  | f + 1, n => if n = 0 then false else if isGate ns n = true then litB (valF ns inp f) (nd ns n).1 && litB (valF ns inp f) (nd ns n).2 else inp (nd ns n).2
theorem valF_fuel {ns : Nodes} (hw : Wf ns) (inp : Nat → Bool) : ∀ n f f', n < ns.length → n < f → n < f' → valF ns inp f n = valF ns inp f' n := by
  intro n
  induction n using Nat.strongRecOn with
  | _ n ih =>
    intro f f' hn hf hf'
    obtain ⟨f, rfl⟩ : ∃ m, f = m + 1 := ⟨f - 1, by omega⟩
    obtain ⟨f', rfl⟩ : ∃ m, f' = m + 1 := ⟨f' - 1, by omega⟩
    simp only [valF]
    by_cases h0 : n = 0
    · simp [h0]
    rw [if_neg h0, if_neg h0]
    by_cases hg : isGate ns n = true
    · rw [if_pos hg, if_pos hg]
      have ho := hw.2 n hn hg
      unfold opA opB at ho
      unfold litB nd
      rw [ih _ ho.1 f f' (by omega) (by omega) (by omega), ih _ ho.2 f f' (by omega) (by omega) (by omega)]
    · rw [if_neg hg, if_neg hg]
theorem exists_val {ns : Nodes} (hw : Wf ns) (inp : Nat → Bool) : ∃ V, IsVal ns inp V := by
  refine ⟨fun n => valF ns inp (n + 1) n, rfl, fun n hn hg => ?_, fun n hn h0 hg => ?_⟩
  · have h0 : n ≠ 0 := by rintro rfl; simp [isGate] at hg
    have ho := hw.2 n hn hg
    unfold opA opB at ho
    have e : valF ns inp (n + 1) n = (litB (valF ns inp n) (nd ns n).1 && litB (valF ns inp n) (nd ns n).2) := by
      simp only [valF]
      rw [if_neg h0, if_pos hg]
    have a1 := valF_fuel hw inp _ n _ (Nat.lt_trans ho.1 hn) ho.1 (Nat.lt_succ_self _)
    have a2 := valF_fuel hw inp _ n _ (Nat.lt_trans ho.2 hn) ho.2 (Nat.lt_succ_self _)
    show valF ns inp (n + 1) n = _
    rw [e]
    unfold litB nd
    rw [a1, a2]
  · show valF ns inp (n + 1) n = _
    simp only [valF]
    rw [if_neg h0, if_neg (by rw [hg]; exact Bool.false_ne_true)]

theorem testBit_max (k : Nat) (hk : k < 64) : Nat.testBit 18446744073709551615 k = true := by
  have : Nat.testBit (2 ^ 64 - 1) k = decide (k < 64) := Nat.testBit_two_pow_sub_one 64 k
  rw [show (18446744073709551615 : Nat) = 2 ^ 64 - 1 from rfl, this]
  simpa using hk
theorem wordOf_bit {vs : List Nat} {V : Nat → Bool} {x k : Nat} (hk : k < 64) (h : (vs.getD (x / 2) 0).testBit k = V (x / 2)) : (wordOf vs x).testBit k = litB V x := by
  unfold wordOf litB
  have : x % 2 = 0 ∨ x % 2 = 1 := by omega
  rcases this with h1 | h1
  · rw [if_neg (by omega), h, h1]; simp
  · rw [if_pos h1, Nat.testBit_xor, h, testBit_max k hk, h1]; cases V (x / 2) <;> rfl

theorem getD_set_ne {vs : List Nat} {n m x : Nat} (h : m ≠ n) : (vs.set n x).getD m 0 = vs.getD m 0 := by
  simp only [List.getD_eq_getElem?_getD, List.getElem?_set]; rw [if_neg (Ne.symm h)]
theorem getD_set_eq {vs : List Nat} {n x : Nat} (h : n < vs.length) : (vs.set n x).getD n 0 = x := by
  simp only [List.getD_eq_getElem?_getD, List.getElem?_set]; simp [h]

theorem sim_bit {ns : Nodes} {K ins : List Nat} (h : Lined ns K) (k : Nat) (hk : k < 64) (V : Nat → Bool) (hv : IsVal ns (fun i => (ins.getD i 0).testBit k) V) :
    (∀ n ∈ K, ((simOver ns ins K).getD n 0).testBit k = V n) ∧ (simOver ns ins K).getD 0 0 = 0 := by
  induction h with
  | nil => exact ⟨fun n hn => (by cases hn), (by cases ns <;> simp [simOver])⟩
  | @snoc l n hl ha ih =>
    obtain ⟨ih1, ih2⟩ := ih
    obtain ⟨hn0, hnl, hnn, hop⟩ := ha
    have hlen := simOver_length ns ins l
    rw [simOver_snoc]
    generalize simOver ns ins l = vs at *
    have hz : ∀ m, m = 0 ∨ m ∈ l → (vs.getD m 0).testBit k = V m := fun m hm => by
      rcases hm with rfl | hm
      · rw [ih2, hv.zero]; simp
      · exact ih1 m hm
    unfold simStep
    refine ⟨fun m hm => ?_, by rw [getD_set_ne (by omega)]; exact ih2⟩
    by_cases hmn : m = n
    · rw [hmn, getD_set_eq (by omega)]
      by_cases hg : isGate ns n = true
      · rw [if_pos hg, Nat.testBit_and, hv.gate n hnl hg]
        obtain ⟨oA, oB⟩ := hop hg
        unfold opA at oA
        unfold opB at oB
        rw [wordOf_bit hk (hz _ oA), wordOf_bit hk (hz _ oB)]
        rfl
      · have hg' : isGate ns n = false := by cases h : isGate ns n <;> simp_all
        rw [if_neg hg, hv.ins n hnl hn0 hg']
        rfl
    · rw [getD_set_ne hmn]
      rcases List.mem_append.1 hm with h1 | h1
      · exact ih1 m h1
      · exact absurd (List.mem_singleton.1 h1) hmn

theorem simM_bit {ns : Nodes} (hw : Wf ns) {ins roots : List Nat} (hx : ∀ r ∈ roots, r < 2 * ns.length) (k : Nat) (hk : k < 64) (V : Nat → Bool) (hv : IsVal ns (fun i => (ins.getD i 0).testBit k) V) :
    (simM ns ins roots).map (fun w => w.testBit k) = roots.map (litB V) := by
  obtain ⟨h1, h2⟩ := coneM_lined hw roots hx
  obtain ⟨s1, s2⟩ := sim_bit h1 k hk V hv
  unfold simM
  rw [List.map_map]
  refine List.map_congr_left fun r hr => ?_
  refine wordOf_bit hk ?_
  rcases h2 r hr with h | h
  · rw [h, s2, hv.zero]; simp
  · exact s1 _ h

theorem evalM_val {ns : Nodes} (hw : Wf ns) {row : List Bool} {roots : List Nat} (hx : ∀ r ∈ roots, r < 2 * ns.length) (V : Nat → Bool) (hv : IsVal ns (fun i => row.getD i false) V) (bitOf : Bool → Nat) (hb : bitOf = fun b => if b then 1 else 0) :
    (simM ns (row.map bitOf) roots).map (fun w => w % 2 == 1) = roots.map (litB V) := by
  have e : (fun i => ((row.map bitOf).getD i 0).testBit 0) = (fun i => row.getD i false) := by
    funext i
    by_cases hi : i < row.length
    · simp only [List.getD_eq_getElem?_getD, List.getElem?_map, List.getElem?_eq_getElem hi, Option.map_some, Option.getD_some, hb]
      cases row[i] <;> rfl
    · simp [List.getD_eq_getElem?_getD, List.getElem?_eq_none (Nat.le_of_not_lt hi)]
  have h := simM_bit hw (ins := row.map bitOf) hx 0 (by decide) V (by rw [e]; exact hv)
  rw [← h]
  refine List.map_congr_left fun w _ => ?_
  rw [Nat.testBit_zero]
  by_cases h : w % 2 = 1 <;> simp [h]
theorem madeM_count (script : List Mk) (hl : script.length ≤ 300000000) : (inputsOf (madeM script).1).length ≤ script.length := by
  obtain ⟨g, hv⟩ := madeM_good script hl
  obtain ⟨V, hV⟩ := exists_val g.wf (fun i => ([] : List Bool).getD i false)
  rw [← (hv _ V hV [] (fun _ => rfl)).2]
  exact (wantM_len script []).2

end Go.Proofs.YtjllogellpfpkaaDoor
