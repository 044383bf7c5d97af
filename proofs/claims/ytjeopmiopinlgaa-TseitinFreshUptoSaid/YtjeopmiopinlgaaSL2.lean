/- Parts claim their blocks: two parts never the same one. -/
import Derived.Test.YtjeopmiopinlgaaRw2
set_option linter.unusedVariables false
set_option linter.unusedSimpArgs false
namespace Go.Proofs.Ytjeopmiopinlgaa.SL
open Go Go.RowKit

/-- The part holds this block. -/
def Claims (P : HP) (b : Nat) : Prop := ∀ k, P k → k b ≠ none
theorem claims_blk {b : Nat} {o : Obj} : Claims (Blk b o) b := fun k p => by unfold Blk at p; rw [p]; simp
theorem claims_arr {α : Type} {d : Cd α} {e : TypeId} {g n c : Nat} {xs : List α} : Claims (Arr d e (.slice (some ⟨g, 0, none⟩) n c) xs) g := fun k p => by
  rcases p.2 with ⟨h0, _⟩ | ⟨g', cap, cur, hv, hg, _⟩
  · cases h0
  · injection hv with h1
    injection h1 with h1
    injection h1 with h1
    subst h1; rw [hg]; simp
theorem St.apart {w0 w : World} {l : List HP} {P Q : HP} {a b : Nat} (h : St w0 (P :: Q :: l) w) (hp : Claims P a) (hq : Claims Q b) : a ≠ b := by
  obtain ⟨h1, h2, p, ⟨h3, h4, q, r, d34, s3, s4⟩, d12, s1, s2⟩ := h.sat
  rintro rfl
  have e1 := hp _ p
  have e2 := hq _ q
  rcases d12 a with h | h
  · exact e1 h
  · cases h3a : h3 a with
    | none => exact e2 h3a
    | some o => have := s3 _ _ h3a; rw [h] at this; cases this
/-- The part at i and the part at j, in front. -/
theorem St.apart2 {w0 w : World} {l l' : List HP} {P Q : HP} {a b : Nat} (h : St w0 l w) (i j : Nat) (e : SL.sel [i, j] 0 l = P :: Q :: l') (hp : Claims P a) (hq : Claims Q b) : a ≠ b := by
  have := h.sel [i, j]
  rw [e] at this
  exact this.apart hp hq
end Go.Proofs.Ytjeopmiopinlgaa.SL
