/- Cones: in what order the nodes stand. Plain laws. -/
import Derived.Test.YtjllogellpfpkaaDoorAigN
set_option linter.unusedVariables false
set_option linter.unusedSimpArgs false
namespace Go.Proofs.YtjllogellpfpkaaDoor

/-- May a node stand behind these? -/
def After (ns : Nodes) (l : List Nat) (n : Nat) : Prop := n ≠ 0 ∧ n < ns.length ∧ n ∉ l ∧ (isGate ns n = true → (opA ns n = 0 ∨ opA ns n ∈ l) ∧ (opB ns n = 0 ∨ opB ns n ∈ l))
inductive Lined (ns : Nodes) : List Nat → Prop
  | nil : Lined ns []
  | snoc {l : List Nat} {n : Nat} : Lined ns l → After ns l n → Lined ns (l ++ [n])

theorem Lined.inv {ns : Nodes} {l : List Nat} {n : Nat} (h : Lined ns (l ++ [n])) : Lined ns l ∧ After ns l n := by
  generalize hk : l ++ [n] = k at h
  cases h with
  | nil => simp at hk
  | snoc h a =>
    obtain ⟨rfl, h2⟩ := List.append_inj' hk rfl
    cases h2
    exact ⟨h, a⟩
theorem Lined.take {ns : Nodes} {l : List Nat} (h : Lined ns l) (i : Nat) : Lined ns (l.take i) := by
  induction h with
  | nil => simpa using Lined.nil
  | @snoc l n h a ih =>
    by_cases hi : i ≤ l.length
    · rw [List.take_append_of_le_length hi]; exact ih
    · rw [List.take_of_length_le (by simp; omega)]; exact Lined.snoc h a
theorem Lined.at {ns : Nodes} {l : List Nat} (h : Lined ns l) {i : Nat} (hi : i < l.length) : After ns (l.take i) l[i] := by
  have h1 := h.take (i + 1)
  rw [List.take_succ_eq_append_getElem hi] at h1
  exact h1.inv.2
theorem Lined.mem {ns : Nodes} {l : List Nat} (h : Lined ns l) : ∀ m ∈ l, m ≠ 0 ∧ m < ns.length := by
  induction h with
  | nil => intro m hm; cases hm
  | snoc h a ih =>
    intro m hm
    rcases List.mem_append.1 hm with h1 | h1
    · exact ih m h1
    · rw [List.mem_singleton.1 h1]; exact ⟨a.1, a.2.1⟩
theorem Lined.nodup {ns : Nodes} {l : List Nat} (h : Lined ns l) : l.Nodup := by
  induction h with
  | nil => exact List.nodup_nil
  | @snoc l n h a ih => rw [List.nodup_append]; exact ⟨ih, by simp, fun x hx y hy => by rw [List.mem_singleton.1 hy]; rintro rfl; exact a.2.2.1 hx⟩

/-- What a walk keeps: it goes on from s to t. -/
structure Goes (ns : Nodes) (s t : CS) : Prop where
  len : t.1.length = s.1.length
  lined : Lined ns t.2
  more : ∀ m ∈ s.2, m ∈ t.2
  met : ∀ m, s.1.getD m true = true → t.1.getD m true = true
  new : ∀ m, m < s.1.length → t.1.getD m true = true → s.1.getD m true = true ∨ m ∈ t.2
  fresh : ∀ m ∈ t.2, m ∈ s.2 ∨ s.1.getD m true = false
theorem Goes.refl {ns : Nodes} {s : CS} (h : Lined ns s.2) : Goes ns s s := ⟨rfl, h, fun _ h => h, fun _ h => h, fun _ _ h => .inl h, fun _ h => .inl h⟩
theorem Goes.trans {ns : Nodes} {s t u : CS} (h : Goes ns s t) (k : Goes ns t u) : Goes ns s u :=
  ⟨by rw [k.len, h.len], k.lined, fun m hm => k.more m (h.more m hm), fun m hm => k.met m (h.met m hm), fun m hm hu => by
    rcases k.new m (by rw [h.len]; exact hm) hu with h1 | h1
    · rcases h.new m hm h1 with h2 | h2
      · exact .inl h2
      · exact .inr (k.more m h2)
    · exact .inr h1, fun m hm => by
    rcases k.fresh m hm with h1 | h1
    · exact h.fresh m h1
    · right
      cases h2 : s.1.getD m true with
      | false => rfl
      | true => rw [h.met m h2] at h1; cases h1⟩
def Firm (b : Nat) (s : CS) : Prop := ∀ m, m < b → s.1.getD m true = true → m = 0 ∨ m ∈ s.2
theorem Goes.firm {ns : Nodes} {s t : CS} (h : Goes ns s t) {b : Nat} (hb : b ≤ s.1.length) (k : Firm b s) : Firm b t := fun m hm ht => by
  rcases h.new m (by omega) ht with h1 | h1
  · rcases k m hm h1 with h2 | h2
    · exact .inl h2
    · exact .inr (h.more m h2)
  · exact .inr h1

theorem getD_set_true (l : List Bool) (n m : Nat) : (l.set n true).getD m true = if m = n then true else l.getD m true := by
  simp only [List.getD_eq_getElem?_getD, List.getElem?_set]
  by_cases h : n = m
  · subst h
    by_cases h2 : n < l.length
    · simp [h2]
    · simp [h2]
  · simp [h, Ne.symm h]

theorem meet_goes {ns : Nodes} (hw : Wf ns) : ∀ (f n : Nat) (s : CS), n < f → n < ns.length → s.1.length = ns.length → Lined ns s.2 → s.1.getD 0 true = true → (∀ m ∈ s.2, s.1.getD m true = true) → Firm (n + 1) s →
    Goes ns s (meet ns f n s) ∧ (n = 0 ∨ n ∈ (meet ns f n s).2) ∧ (meet ns f n s).1.getD 0 true = true ∧ (∀ m ∈ (meet ns f n s).2, (meet ns f n s).1.getD m true = true) := by
  intro f
  induction f with
  | zero => intro n s hf; omega
  | succ f ih =>
    intro n s hf hn hl hli h0 hin hfm
    simp only [meet]
    by_cases hb : s.1.getD n true = true
    · rw [if_pos hb]
      exact ⟨Goes.refl hli, hfm n (by omega) hb, h0, hin⟩
    rw [if_neg hb]
    have hb' : s.1.getD n true = false := by cases h : s.1.getD n true <;> simp_all
    have hn0 : n ≠ 0 := fun e => by rw [e] at hb; exact hb h0
    have hnot : n ∉ s.2 := fun h => hb (hin n h)
    have hmono : ∀ m, s.1.getD m true = true → (s.1.set n true).getD m true = true := fun m hm => by rw [getD_set_true]; exact (if h : m = n then by rw [if_pos h] else by rw [if_neg h]; exact hm)
    have hback : ∀ m, m ≠ n → (s.1.set n true).getD m true = s.1.getD m true := fun m hm => by rw [getD_set_true, if_neg hm]
    have hself : (s.1.set n true).getD n true = true := by rw [getD_set_true, if_pos rfl]
    by_cases hg : isGate ns n = true
    · rw [if_pos hg]
      obtain ⟨ha, hbb⟩ := hw.2 n hn hg
      have k1 := ih (opA ns n) (s.1.set n true, s.2) (by omega) (by omega) (by simpa using hl) hli (hmono 0 h0) (fun m hm => hmono m (hin m hm))
        (fun m hm ht => by rw [hback m (by omega)] at ht; exact hfm m (by omega) ht)
      obtain ⟨g1, i1, z1, n1⟩ := k1
      generalize meet ns f (opA ns n) (s.1.set n true, s.2) = s2 at *
      have hl2 : s2.1.length = ns.length := by rw [g1.len]; simpa using hl
      have hf2 : Firm n s2 := g1.firm (b := n) (by simp; omega) (fun m hm ht => by rw [hback m (by omega)] at ht; exact hfm m (by omega) ht)
      have k2 := ih (opB ns n) s2 (by omega) (by omega) hl2 g1.lined z1 n1 (fun m hm ht => hf2 m (by omega) ht)
      obtain ⟨g2, i2, z2, n2⟩ := k2
      generalize meet ns f (opB ns n) s2 = t at *
      have g := g1.trans g2
      have hnt : n ∉ t.2 := fun h => by
        rcases g.fresh n h with h1 | h1
        · exact hnot h1
        · rw [hself] at h1; cases h1
      refine ⟨⟨by simpa using g.len, Lined.snoc g.lined ⟨hn0, hn, hnt, fun _ => ⟨i1.imp id (g2.more _), i2⟩⟩, fun m hm => by simp [g.more m hm], fun m hm => g.met m (hmono m hm), ?_, ?_⟩, .inr (by simp), z2, ?_⟩
      · intro m hm ht
        by_cases he : m = n
        · exact .inr (by simp [he])
        · rcases g.new m (by simpa using hm) ht with h1 | h1
          · rw [hback m he] at h1; exact .inl h1
          · exact .inr (by simp [h1])
      · intro m hm
        rcases List.mem_append.1 hm with h1 | h1
        · rcases g.fresh m h1 with h2 | h2
          · exact .inl h2
          · right
            cases h3 : s.1.getD m true with
            | false => rfl
            | true => rw [hmono m h3] at h2; cases h2
        · rw [List.mem_singleton.1 h1]; exact .inr hb'
      · intro m hm
        rcases List.mem_append.1 hm with h1 | h1
        · exact n2 m h1
        · rw [List.mem_singleton.1 h1]; exact g.met n hself
    · rw [if_neg hg]
      refine ⟨⟨by simp, Lined.snoc hli ⟨hn0, hn, hnot, fun h => absurd h hg⟩, fun m hm => by simp [hm], hmono, ?_, ?_⟩, .inr (by simp), hmono 0 h0, ?_⟩
      · intro m hm ht
        by_cases he : m = n
        · exact .inr (by simp [he])
        · rw [hback m he] at ht; exact .inl ht
      · intro m hm
        rcases List.mem_append.1 hm with h1 | h1
        · exact .inl h1
        · rw [List.mem_singleton.1 h1]; exact .inr hb'
      · intro m hm
        rcases List.mem_append.1 hm with h1 | h1
        · exact hmono m (hin m h1)
        · rw [List.mem_singleton.1 h1]; exact hself

/-- THE CONE: its nodes stand behind their operands, none twice; it holds the roots. -/
theorem coneM_lined {ns : Nodes} (hw : Wf ns) (roots : List Nat) (hx : ∀ r ∈ roots, r < 2 * ns.length) : Lined ns (coneM ns roots) ∧ ∀ r ∈ roots, r / 2 = 0 ∨ r / 2 ∈ coneM ns roots := by
  have key : ∀ (l : List Nat) (s : CS), (∀ r ∈ l, r < 2 * ns.length) → s.1.length = ns.length → Lined ns s.2 → s.1.getD 0 true = true → (∀ m ∈ s.2, s.1.getD m true = true) → Firm ns.length s →
      Lined ns (meetAll ns l s).2 ∧ (∀ m ∈ s.2, m ∈ (meetAll ns l s).2) ∧ ∀ r ∈ l, r / 2 = 0 ∨ r / 2 ∈ (meetAll ns l s).2 := by
    intro l
    induction l with
    | nil => intro s _ _ hli _ _ _; exact ⟨hli, fun _ h => h, fun r hr => by cases hr⟩
    | cons r l ih =>
      intro s hl hlen hli h0 hin hfm
      have hr : r / 2 < ns.length := by have := hl r List.mem_cons_self; omega
      obtain ⟨g, i, z, n1⟩ := meet_goes hw ns.length (r / 2) s hr hr hlen hli h0 hin (fun m hm ht => hfm m (by omega) ht)
      have e : meetAll ns (r :: l) s = meetAll ns l (meet ns ns.length (r / 2) s) := rfl
      rw [e]
      obtain ⟨k1, k2, k3⟩ := ih (meet ns ns.length (r / 2) s) (fun q hq => hl q (List.mem_cons_of_mem _ hq)) (by rw [g.len, hlen]) g.lined z n1 (g.firm (by omega) hfm)
      refine ⟨k1, fun m hm => k2 m (g.more m hm), fun q hq => ?_⟩
      rcases List.mem_cons.1 hq with rfl | h1
      · exact i.imp id (k2 _)
      · exact k3 q h1
  have hp : 0 < ns.length := by have := hw.1; omega
  have h := key roots (cone0 ns) hx (by simp [cone0]) Lined.nil (by simp [cone0, List.getD_eq_getElem?_getD, hp]) (fun m hm => by cases hm) (fun m hm ht => by
    unfold cone0 at ht
    rw [getD_set_true] at ht
    by_cases hm0 : m = 0
    · exact .inl hm0
    · rw [if_neg hm0] at ht
      simp [List.getD_eq_getElem?_getD, List.getElem?_replicate, hm] at ht)
  exact ⟨h.1, h.2.2⟩
/-- Literals' words, and what a literal's is. -/
def wordOf (vs : List Nat) (x : Nat) : Nat := if x % 2 = 1 then 18446744073709551615 ^^^ vs.getD (x / 2) 0 else vs.getD (x / 2) 0
def simStep (ns : Nodes) (ins vs : List Nat) (n : Nat) : List Nat :=
  vs.set n (if isGate ns n = true then wordOf vs (ns.getD n (0, 0)).1 &&& wordOf vs (ns.getD n (0, 0)).2 else ins.getD (ns.getD n (0, 0)).2 0)
def simOver (ns : Nodes) (ins l : List Nat) : List Nat := l.foldl (simStep ns ins) (List.replicate ns.length 0)
def simM (ns : Nodes) (ins roots : List Nat) : List Nat := roots.map (wordOf (simOver ns ins (coneM ns roots)))
theorem simOver_snoc (ns : Nodes) (ins l : List Nat) (n : Nat) : simOver ns ins (l ++ [n]) = simStep ns ins (simOver ns ins l) n := by simp [simOver]
theorem simOver_length (ns : Nodes) (ins l : List Nat) : (simOver ns ins l).length = ns.length := by
  suffices h : ∀ vs : List Nat, (l.foldl (simStep ns ins) vs).length = vs.length by unfold simOver; rw [h]; simp
  induction l with
  | nil => intro vs; rfl
  | cons n l ih => intro vs; rw [List.foldl_cons, ih]; simp [simStep]
theorem getD_lt {vs : List Nat} (h : ∀ y ∈ vs, y < 18446744073709551616) (i : Nat) : vs.getD i 0 < 18446744073709551616 := by
  by_cases hi : i < vs.length
  · simp only [List.getD_eq_getElem?_getD, List.getElem?_eq_getElem hi]; exact h _ (List.getElem_mem hi)
  · simp [List.getD_eq_getElem?_getD, List.getElem?_eq_none (Nat.le_of_not_lt hi)]
theorem wordOf_lt {vs : List Nat} (h : ∀ y ∈ vs, y < 18446744073709551616) (x : Nat) : wordOf vs x < 18446744073709551616 := by
  unfold wordOf
  split
  · exact Nat.xor_lt_two_pow (n := 64) (by decide) (getD_lt h _)
  · exact getD_lt h _
theorem simStep_lt {ns : Nodes} {ins vs : List Nat} (hi : ∀ y ∈ ins, y < 18446744073709551616) (h : ∀ y ∈ vs, y < 18446744073709551616) (n : Nat) : ∀ y ∈ simStep ns ins vs n, y < 18446744073709551616 := by
  intro y hy
  rcases List.mem_or_eq_of_mem_set hy with h1 | h1
  · exact h y h1
  · rw [h1]
    split
    · exact Nat.and_lt_two_pow (n := 64) _ (wordOf_lt h _)
    · exact getD_lt hi _
theorem simOver_lt {ns : Nodes} {ins : List Nat} (hi : ∀ y ∈ ins, y < 18446744073709551616) (l : List Nat) : ∀ y ∈ simOver ns ins l, y < 18446744073709551616 := by
  suffices h : ∀ vs : List Nat, (∀ y ∈ vs, y < 18446744073709551616) → ∀ y ∈ l.foldl (simStep ns ins) vs, y < 18446744073709551616 from h _ (fun y hy => by rw [(List.mem_replicate.1 hy).2]; decide)
  induction l with
  | nil => intro vs h; exact h
  | cons n l ih => intro vs h; rw [List.foldl_cons]; exact ih _ (simStep_lt hi h n)
theorem simM_lt {ns : Nodes} {ins : List Nat} (hi : ∀ y ∈ ins, y < 18446744073709551616) (roots : List Nat) : ∀ y ∈ simM ns ins roots, y < 18446744073709551616 := by
  intro y hy
  obtain ⟨x, -, rfl⟩ := List.mem_map.1 hy
  exact wordOf_lt (simOver_lt hi _) x
/-- Inputs carry their numbers. -/
def WfIn (ns : Nodes) : Prop := ∀ n, n < ns.length → n ≠ 0 → isGate ns n = false → (ns.getD n (0, 0)).2 < (inputsOf ns).length
end Go.Proofs.YtjllogellpfpkaaDoor
