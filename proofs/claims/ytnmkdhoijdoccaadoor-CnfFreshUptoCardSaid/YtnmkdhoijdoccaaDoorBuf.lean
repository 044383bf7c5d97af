/- A slice of bytes of the call's own, all of it above what was there: what the library's appending calls leave alone. -/
import Derived.Test.YtnmkdhoijdoccaaDoorBld
import Derived.Lib.AppendIntMem
import Derived.Lib.BufferKept
import Derived.Lib.OwnKind
set_option linter.unusedVariables false
set_option linter.unusedSimpArgs false
namespace Go.Proofs.YtnmkdhoijdoccaaDoor.SL
open Go Go.RowKit Go.Lib

/-- A row of e's of the call's own, from block B on. -/
def Buf (e : TypeId) (B : Nat) (v : Value) (bs : List Value) : HP := fun h => bs.length = bs.length * 1 ∧ ((v = .slice none 0 0 ∧ bs.length = 0) ∨
  ∃ g cap cur, v = .slice (some ⟨g, 0, none⟩) bs.length cap ∧ B ≤ g ∧ h g = some (.cells cur e (0, 0)) ∧ bs.length ≤ cap ∧ cap ≤ maxLen ∧ cur.size = cap * 1 ∧ cur.toList.take (bs.length * 1) = bs)
section
variable {w0 w w' : World} {l : List HP} {e : TypeId} {B : Nat} {v v' : Value} {bs bs' : List Value}
theorem St.buf (h : St w0 (Buf e B v bs :: l) w) : w.ownsRow B e 1 v bs.length bs := by
  obtain ⟨k, ⟨h1, h2⟩, s⟩ := h.head
  refine ⟨h1, ?_⟩
  rcases h2 with h2 | ⟨g, cap, cur, hv, hB, hg, r⟩
  · exact .inl h2
  · exact .inr ⟨g, cap, cur, hv, hB, s _ _ hg, r⟩
theorem St.buf_nil (h : St w0 l w) (e : TypeId) (B : Nat) : St w0 (Buf e B (.slice none 0 0) [] :: l) w :=
  ⟨h.os, h.tape, h.output, h.size, fun _ => none, hl w, ⟨by simp, .inl ⟨rfl, rfl⟩⟩, h.sat, fun _ => .inl rfl, fun _ _ e => (nomatch e), Sub.refl _⟩
theorem St.bufd (h : St w0 (Buf e B v bs :: l) w) (hs : ∀ P ∈ l, Safe B e P) (h1 : w'.ownsRow B e 1 v' bs'.length bs') (h2 : Below B w w') (h3 : OthersKept e none w w') : St w0 (Buf e B v' bs' :: l) w' := by
  obtain ⟨k1, k2, p, q, d, s1, s2⟩ := h.sat
  obtain ⟨k3, a3, q3, g3⟩ := q.safe hs
  have hk3 : Sub k3 (hl w') := fun c o hc => by
    have hw : w.heap[c]? = some o := s2 c o (a3 c o hc)
    rcases g3 c o hc with hlt | hno
    · exact (h2.block c hlt).trans hw
    · exact h3 c o hw (by simp) hno
  refine ⟨h2.os.trans h.os, h2.tape.trans h.tape, h2.output.trans h.output, Nat.le_trans h.size h2.size, ?_⟩
  rcases h1.2 with ⟨hv, hl0⟩ | ⟨g, cap, cur, hv, hg, hgg, r⟩
  · exact ⟨fun _ => none, k3, ⟨h1.1, .inl ⟨hv, hl0⟩⟩, q3, fun _ => .inl rfl, fun _ _ e => (nomatch e), hk3⟩
  · have hg3 : k3 g = none := by
      cases hc : k3 g with
      | none => rfl
      | some o =>
        rcases g3 g o hc with hlt | hno
        · omega
        · have := hk3 g o hc
          rw [show hl w' g = w'.heap[g]? from rfl, hgg] at this
          exact absurd (Option.some.inj this).symm (hno _ _)
    refine ⟨fun c => if c = g then some (.cells cur e (0, 0)) else none, k3, ⟨h1.1, .inr ⟨g, cap, cur, hv, hg, by simp, r⟩⟩, q3, ?_, ?_, hk3⟩
    · intro c
      by_cases hc : c = g
      · subst hc; exact .inr hg3
      · left; simp [hc]
    · intro c o hc
      by_cases hcg : c = g
      · subst hcg; simp at hc; subst hc; exact hgg
      · simp [hcg] at hc
end
end Go.Proofs.YtnmkdhoijdoccaaDoor.SL
