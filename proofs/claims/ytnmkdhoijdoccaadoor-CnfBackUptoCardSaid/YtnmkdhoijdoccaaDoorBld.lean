/- A builder of the call's own as a part; what lies below it folded into one part; what the writing calls leave alone. -/
import Derived.Test.YtnmkdhoijdoccaaDoorRw
import Derived.Lib.OthersKept
import Derived.Lib.LaidTab
set_option linter.unusedVariables false
set_option linter.unusedSimpArgs false
namespace Go.Proofs.YtnmkdhoijdoccaaDoor.SL
open Go Go.RowKit Go.Lib

/-- These parts, all in blocks below B. -/
def Low (B : Nat) (l : List HP) : HP := fun h => Sat l h ∧ ∀ b, h b ≠ none → b < B
/-- A builder in block b that holds these bytes; all of it from B on. -/
def Bld (T e : TypeId) (B b : Nat) (bs : List Value) : HP := fun h => B ≤ b ∧ ∃ p v, (p = .pointer none ∨ p = .pointer (some ⟨b, 0, none⟩)) ∧ h b = some (.cells #[p, v] T (0, 0)) ∧ v.ownBlock ≠ some b ∧ bs.length = bs.length * 1 ∧
  ((v = .slice none 0 0 ∧ bs.length = 0) ∨ ∃ g cap cur fz, v = .slice (some ⟨g, 0, none⟩) bs.length cap ∧ B ≤ g ∧ h g = some (.cells cur e fz) ∧ fz.2 ≤ bs.length * 1 ∧ bs.length ≤ cap ∧ cap ≤ maxLen ∧ cur.size = cap * 1 ∧ cur.toList.take (bs.length * 1) = bs)
/-- Blocks that the builder's calls leave alone. -/
def Good (B : Nat) (e : TypeId) (h : HL) : Prop := ∀ c o, h c = some o → c < B ∨ ∀ cs fz, o ≠ .cells cs e fz
def Safe (B : Nat) (e : TypeId) (P : HP) : Prop := ∀ h, P h → ∃ h', Sub h' h ∧ P h' ∧ Good B e h'

section
variable {w0 w w' : World} {l l' : List HP} {T e : TypeId} {B b : Nat} {bs bs' : List Value}
theorem St.low (h : St w0 l w) : St w0 [Low w.heap.size l] w :=
  ⟨h.os, h.tape, h.output, h.size, hl w, fun _ => none, ⟨h.sat, fun b hb => by
    cases e : hl w b with
    | none => exact absurd e hb
    | some o => exact hl_lt e⟩, trivial, fun _ => .inr rfl, Sub.refl _, fun _ _ e => (nomatch e)⟩
theorem St.lowed (h : St w0 (Low B l :: l') w) : St w0 (l ++ l') w := (h.imp (P' := All l) fun _ p => p.1).flat
theorem Good.union {h k : HL} (a : Good B e h) (c : Good B e k) : Good B e (union h k) := fun x o ho => by
  unfold SL.union at ho
  cases hx : h x with
  | none => rw [hx] at ho; exact c x o (by simpa using ho)
  | some y => rw [hx] at ho; exact a x o (by rw [hx]; simpa using ho)
theorem Sat.safe (hs : ∀ P ∈ l, Safe B e P) : ∀ {h : HL}, Sat l h → ∃ h', Sub h' h ∧ Sat l h' ∧ Good B e h' := by
  induction l with
  | nil => exact fun _ => ⟨fun _ => none, fun _ _ e => (nomatch e), trivial, fun _ _ e => (nomatch e)⟩
  | cons P l ih =>
    intro h k
    obtain ⟨h1, h2, p, q, d, s1, s2⟩ := k
    obtain ⟨k1, a1, p1, g1⟩ := hs P List.mem_cons_self h1 p
    obtain ⟨k2, a2, p2, g2⟩ := ih (fun Q hQ => hs Q (List.mem_cons_of_mem _ hQ)) q
    have dk : Dj k1 k2 := (d.sub a2).symm.sub a1 |>.symm
    exact ⟨SL.union k1 k2, union_sub (a1.trans s1) (a2.trans s2), ⟨k1, k2, p1, p2, dk, sub_union_left _ _, sub_union_right dk⟩, g1.union g2⟩
theorem safe_low {B' : Nat} (h : B' ≤ B) : Safe B e (Low B' l) := fun k p => ⟨k, Sub.refl _, p, fun c o hc => .inl (Nat.lt_of_lt_of_le (p.2 c (by rw [hc]; simp)) h)⟩
theorem safe_blk {c : Nat} {cs : Array Value} {t : TypeId} {fr : Nat × Nat} (hte : t ≠ e) : Safe B e (Blk c (.cells cs t fr)) := fun k p =>
  ⟨fun x => if x = c then some (.cells cs t fr) else none, fun x o hx => by
    by_cases hxc : x = c
    · subst hxc; simp at hx; subst hx; exact p
    · simp [hxc] at hx, by simp [Blk], fun x o hx => by
    by_cases hxc : x = c
    · simp [hxc] at hx; subst hx; right; intro cs' fz h; injection h with h1 h2; exact hte h2
    · simp [hxc] at hx⟩
theorem St.bld (h : St w0 (Bld T e B b bs :: l) w) : IsBuilderF T e B b bs w := by
  obtain ⟨k, ⟨hB, p, v, hp, hb, hne, hl1, hv⟩, s⟩ := h.head
  have key : BuilderAtF T e B b p bs w := by
    refine ⟨hB, v, s _ _ hb, ⟨hl1, ?_⟩, hne⟩
    rcases hv with hv | ⟨g, cap, cur, fz, hv, hg, hgg, r⟩
    · exact .inl hv
    · exact .inr ⟨g, cap, cur, fz, hv, hg, s _ _ hgg, r⟩
  rcases hp with rfl | rfl
  · exact .inl key
  · exact .inr key
theorem St.wrote (h : St w0 (Bld T e B b bs :: l) w) (hs : ∀ P ∈ l, Safe B e P) (h1 : IsBuilderF T e B b bs' w') (h2 : Below B w w') (h3 : OthersKept e (some b) w w') (hTe : T ≠ e) : St w0 (Bld T e B b bs' :: l) w' := by
  obtain ⟨k1, k2, p, q, d, s1, s2⟩ := h.sat
  obtain ⟨k3, a3, q3, g3⟩ := q.safe hs
  obtain ⟨pp, hpp, hAt⟩ : ∃ pp, (pp = .pointer none ∨ pp = .pointer (some ⟨b, 0, none⟩)) ∧ BuilderAtF T e B b pp bs' w' := by
    rcases h1 with h1 | h1
    · exact ⟨_, .inl rfl, h1⟩
    · exact ⟨_, .inr rfl, h1⟩
  obtain ⟨hB, v, hbk, hown, hne⟩ := hAt
  have hk3 : Sub k3 (hl w') := fun c o hc => by
    have hw : w.heap[c]? = some o := s2 c o (a3 c o hc)
    rcases g3 c o hc with hlt | hno
    · exact (h2.block c hlt).trans hw
    · refine h3 c o hw ?_ hno
      intro hcb
      have hcb : c = b := by simpa using hcb
      subst hcb
      obtain ⟨_, p', v', _, hb', _⟩ := p
      rcases d c with hd | hd
      · rw [hb'] at hd; cases hd
      · rw [a3 c o hc] at hd; cases hd
  have hb3 : k3 b = none := by
    obtain ⟨_, p', v', _, hb', _⟩ := p
    rcases d b with hd | hd
    · rw [hb'] at hd; cases hd
    · cases hc : k3 b with
      | none => rfl
      | some o => rw [a3 b o hc] at hd; cases hd
  have hg3 : ∀ g cur fz, B ≤ g → w'.heap[g]? = some (.cells cur e fz) → k3 g = none := fun g cur fz hBg hg => by
    cases hc : k3 g with
    | none => rfl
    | some o =>
      rcases g3 g o hc with hlt | hno
      · omega
      · have := hk3 g o hc
        rw [show hl w' g = w'.heap[g]? from rfl, hg] at this
        exact absurd (Option.some.inj this).symm (hno _ _)
  refine ⟨h2.os.trans h.os, h2.tape.trans h.tape, h2.output.trans h.output, Nat.le_trans h.size h2.size, ?_⟩
  rcases hown.2 with ⟨hv, hl0⟩ | ⟨g, cap, cur, fz, hv, hg, hgg, r⟩
  · refine ⟨fun c => if c = b then some (.cells #[pp, v] T (0, 0)) else none, k3, ⟨hB, pp, v, hpp, by simp, hne, hown.1, .inl ⟨hv, hl0⟩⟩, q3, ?_, ?_, hk3⟩
    · intro c
      by_cases hc : c = b
      · subst hc; exact .inr hb3
      · left; simp [hc]
    · intro c o hc
      by_cases hcb : c = b
      · subst hcb; simp at hc; subst hc; exact hbk
      · simp [hcb] at hc
  · have hgb : g ≠ b := by
      rintro rfl
      rw [hgg] at hbk
      injection hbk with hbk
      injection hbk with _ hbk
      exact hTe hbk.symm
    refine ⟨fun c => if c = b then some (.cells #[pp, v] T (0, 0)) else if c = g then some (.cells cur e fz) else none, k3, ⟨hB, pp, v, hpp, by simp, hne, hown.1, .inr ⟨g, cap, cur, fz, hv, hg, by simp [hgb], r⟩⟩, q3, ?_, ?_, hk3⟩
    · intro c
      by_cases hc : c = b
      · subst hc; exact .inr hb3
      · by_cases hcg : c = g
        · subst hcg; exact .inr (hg3 _ _ _ hg hgg)
        · left; simp [hc, hcg]
    · intro c o hc
      by_cases hcb : c = b
      · subst hcb; simp at hc; subst hc; exact hbk
      · by_cases hcg : c = g
        · subst hcg; simp [hcb] at hc; subst hc; exact hgg
        · simp [hcb, hcg] at hc
/-- A builder that was just made. -/
theorem St.bld_new (h : St w0 (Blk b (.cells #[.pointer none, .slice none 0 0] T (0, 0)) :: l) w) (hB : B ≤ b) : St w0 (Bld T e B b [] :: l) w :=
  h.imp fun k p => ⟨hB, _, _, .inl rfl, p, by simp [Value.ownBlock], by simp, .inl ⟨rfl, rfl⟩⟩
/-- A table of the library's, as the world at the start has it. -/
theorem tab_old {P : Program} {name : String} {k : IntKind} {zs : List Int} (h : TabIs P w0 name k zs) : Ent (Old w0 :: l) (fun w => TabIs P w name k zs) :=
  Ent.old fun w hb => by
    unfold TabIs World.var? at *
    obtain ⟨g, hg, hc⟩ := Option.bind_eq_some_iff.1 h
    refine Option.bind_eq_some_iff.2 ⟨g, hg, ?_⟩
    cases hw : w0.heap[g]? with
    | none => rw [hw] at hc; cases hc
    | some o => rw [hb g o hw]; rw [hw] at hc; exact hc
end
end Go.Proofs.YtnmkdhoijdoccaaDoor.SL
