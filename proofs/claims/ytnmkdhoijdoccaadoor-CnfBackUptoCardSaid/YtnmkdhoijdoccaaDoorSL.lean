/- Memory in parts: a world holds a list of parts that share no block; what a call does to one part leaves the others as they are. -/
import Derived.WalkKit
import Derived.KernelRfl
import Derived.Maps.AppendAt
import Derived.Deep.AppendLies
import Derived.Deep.RegionHeld3
import Derived.Deep.QuietTactic
import Derived.BigQuiet
import Derived.Laws.MakeOwn
import Derived.Lib.Hide
set_option linter.unusedVariables false
set_option linter.unusedSimpArgs false
namespace Go.Proofs.YtnmkdhoijdoccaaDoor.SL
open Go Go.RowKit

abbrev HL := Nat → Option Obj
abbrev HP := HL → Prop
def Sub (h1 h2 : HL) : Prop := ∀ b o, h1 b = some o → h2 b = some o
def Dj (h1 h2 : HL) : Prop := ∀ b, h1 b = none ∨ h2 b = none
def Sat : List HP → HL → Prop
  | [], _ => True
  | P :: l, h => ∃ h1 h2, P h1 ∧ Sat l h2 ∧ Dj h1 h2 ∧ Sub h1 h ∧ Sub h2 h

theorem Sub.refl (h : HL) : Sub h h := fun _ _ e => e
theorem Sub.trans {a b c : HL} (h : Sub a b) (k : Sub b c) : Sub a c := fun x o e => k x o (h x o e)
theorem Dj.symm {a b : HL} (h : Dj a b) : Dj b a := fun x => (h x).symm
theorem Sat.mono {l : List HP} {h h' : HL} (s : Sub h h') (k : Sat l h) : Sat l h' := by
  cases l with
  | nil => trivial
  | cons P l => obtain ⟨h1, h2, p, q, d, s1, s2⟩ := k; exact ⟨h1, h2, p, q, d, s1.trans s, s2.trans s⟩

def union (a b : HL) : HL := fun x => (a x).or (b x)
theorem sub_union_left (a b : HL) : Sub a (union a b) := fun x o e => by simp [union, e]
theorem sub_union_right {a b : HL} (d : Dj a b) : Sub b (union a b) := fun x o e => by
  rcases d x with h | h
  · simp [union, h, e]
  · rw [h] at e; cases e
theorem union_sub {a b c : HL} (h : Sub a c) (k : Sub b c) : Sub (union a b) c := fun x o e => by
  unfold union at e
  cases ha : a x with
  | none => rw [ha] at e; exact k x o (by simpa using e)
  | some y => rw [ha] at e; exact h x o (by rw [ha]; simpa using e)
theorem dj_union {a b c : HL} (h : Dj a c) (k : Dj b c) : Dj (union a b) c := fun x => by
  rcases k x with h2 | h2
  · rcases h x with h1 | h1
    · left; simp [union, h1, h2]
    · exact .inr h1
  · exact .inr h2
theorem Dj.sub {a b c : HL} (h : Dj a b) (k : Sub c b) : Dj a c := fun x => by
  rcases h x with h1 | h1
  · exact .inl h1
  · right
    cases hc : c x with
    | none => rfl
    | some o => rw [k x o hc] at h1; cases h1

theorem Sat.swap {P Q : HP} {l : List HP} {h : HL} (k : Sat (P :: Q :: l) h) : Sat (Q :: P :: l) h := by
  obtain ⟨h1, h2, p, ⟨h3, h4, q, r, d34, s3, s4⟩, d12, s1, s2⟩ := k
  refine ⟨h3, union h1 h4, q, ⟨h1, h4, p, r, d12.sub s4, sub_union_left _ _, sub_union_right (d12.sub s4)⟩, ?_, s3.trans s2, union_sub s1 (s4.trans s2)⟩
  exact (dj_union (d12.sub s3) d34.symm).symm
theorem Sat.cons_imp {P : HP} {l l' : List HP} {h : HL} (i : ∀ h, Sat l h → Sat l' h) (k : Sat (P :: l) h) : Sat (P :: l') h := by
  obtain ⟨h1, h2, p, q, d, s1, s2⟩ := k
  exact ⟨h1, h2, p, i _ q, d, s1, s2⟩
theorem Sat.head_imp {P P' : HP} {l : List HP} {h : HL} (i : ∀ h, P h → P' h) (k : Sat (P :: l) h) : Sat (P' :: l) h := by
  obtain ⟨h1, h2, p, q, d, s1, s2⟩ := k
  exact ⟨h1, h2, i _ p, q, d, s1, s2⟩
theorem Sat.drop {P : HP} {l : List HP} {h : HL} (k : Sat (P :: l) h) : Sat l h := by
  obtain ⟨h1, h2, p, q, d, s1, s2⟩ := k
  exact q.mono s2
theorem Sat.perm {l l' : List HP} (p : l.Perm l') : ∀ {h : HL}, Sat l h → Sat l' h := by
  induction p with
  | nil => exact fun k => k
  | cons x _ ih => exact fun k => k.cons_imp fun _ => ih
  | swap x y l => exact fun k => k.swap
  | trans _ _ ih1 ih2 => exact fun k => ih2 (ih1 k)

/-- The part at place n, put first. -/
def pull : Nat → List HP → List HP
  | 0, l => l
  | _ + 1, [] => []
  | n + 1, P :: l => match pull n l with
    | [] => [P]
    | Q :: l' => Q :: P :: l'
theorem Sat.pull (n : Nat) : ∀ {l : List HP} {h : HL}, Sat l h → Sat (pull n l) h := by
  induction n with
  | zero => exact fun k => k
  | succ n ih =>
    intro l h k
    cases l with
    | nil => exact k
    | cons P l =>
      have := k.cons_imp (l' := SL.pull n l) (fun _ => ih)
      show Sat (match SL.pull n l with | [] => [P] | Q :: l' => Q :: P :: l') h
      cases hp : SL.pull n l with
      | nil => rw [hp] at this; exact this
      | cons Q l' => rw [hp] at this; exact this.swap
/-- The first part, put behind n others. -/
def push : Nat → List HP → List HP
  | 0, l => l
  | _ + 1, [] => []
  | _ + 1, [P] => [P]
  | n + 1, P :: Q :: l => Q :: push n (P :: l)
theorem Sat.push (n : Nat) : ∀ {l : List HP} {h : HL}, Sat l h → Sat (push n l) h := by
  induction n with
  | zero => exact fun k => k
  | succ n ih =>
    intro l h k
    match l with
    | [] => exact k
    | [P] => exact k
    | P :: Q :: l => exact k.swap.cons_imp fun _ => ih

/-- The parts at these places put first, in this order (the places as they are in the list at hand). -/
def picks : Nat → List Nat → List HP → List HP
  | 0, _, l => l
  | _ + 1, [], l => l
  | n + 1, i :: is, l => match pull i l with
    | [] => l
    | P :: l' => P :: picks n (is.map fun j => if j < i then j else j - 1) l'
theorem Sat.picks : ∀ (n : Nat) (is : List Nat) {l : List HP} {h : HL}, Sat l h → Sat (picks n is l) h
  | 0, _, _, _, k => k
  | _ + 1, [], _, _, k => k
  | n + 1, i :: is, l, h, k => by
    have hk := k.pull i
    show Sat (match SL.pull i l with | [] => l | P :: l' => P :: SL.picks n (is.map fun j => if j < i then j else j - 1) l') h
    cases hp : SL.pull i l with
    | nil => exact k
    | cons P l' => rw [hp] at hk; exact hk.cons_imp fun _ q => Sat.picks n _ q
/-- d parts behind the first m fall away. -/
def cut : Nat → Nat → List HP → List HP
  | 0, d, l => l.drop d
  | _ + 1, _, [] => []
  | m + 1, d, P :: l => P :: cut m d l
theorem Sat.dropN : ∀ (d : Nat) {l : List HP} {h : HL}, Sat l h → Sat (l.drop d) h
  | 0, _, _, k => k
  | _ + 1, [], _, k => k
  | d + 1, _ :: _, _, k => Sat.dropN d k.drop
theorem Sat.cut (d : Nat) : ∀ (m : Nat) {l : List HP} {h : HL}, Sat l h → Sat (cut m d l) h
  | 0, _, _, k => k.dropN d
  | _ + 1, [], _, k => k
  | m + 1, _ :: _, _, k => k.cons_imp fun _ q => Sat.cut d m q
def sel (is : List Nat) (d : Nat) (l : List HP) : List HP := cut is.length d (picks is.length is l)

/-- Several parts as one. -/
def All (l : List HP) : HP := Sat l
theorem Sat.flat {l l' : List HP} {h : HL} (k : Sat (All l :: l') h) : Sat (l ++ l') h := by
  obtain ⟨h1, h2, p, q, d, s1, s2⟩ := k
  induction l generalizing h1 h with
  | nil => exact q.mono s2
  | cons P l ih =>
    obtain ⟨h3, h4, p3, p4, d34, s3, s4⟩ := p
    refine ⟨h3, union h4 h2, p3, ?_, (dj_union d34.symm (d.symm.sub s3)).symm, s3.trans s1, union_sub (s4.trans s1) s2⟩
    exact ih h4 p4 (d.symm.sub s4).symm (sub_union_left _ _) (sub_union_right (d.symm.sub s4).symm)
theorem Sat.fold {l l' : List HP} {h : HL} (k : Sat (l ++ l') h) : Sat (All l :: l') h := by
  induction l generalizing h with
  | nil => exact ⟨fun _ => none, h, trivial, k, fun _ => .inl rfl, ⟨fun _ _ e => (nomatch e), Sub.refl _⟩⟩
  | cons P l ih =>
    obtain ⟨h1, h2, p, q, d, s1, s2⟩ := k
    obtain ⟨h3, h4, p3, p4, d34, s3, s4⟩ := ih q
    exact ⟨union h1 h3, h4, ⟨h1, h3, p, p3, d.sub s3, sub_union_left _ _, sub_union_right (d.sub s3)⟩, p4, dj_union (d.sub s4) d34, union_sub s1 (s3.trans s2), s4.trans s2⟩

/-! ### Worlds -/
def hl (w : World) : HL := fun b => w.heap[b]?
/-- The world w holds these parts; its streams are w0's, its heap is not smaller. -/
structure St (w0 : World) (l : List HP) (w : World) : Prop where
  os : w.os = w0.os
  tape : w.tape = w0.tape
  output : w.output = w0.output
  size : w0.heap.size ≤ w.heap.size
  sat : Sat l (hl w)
/-- What holds of every world with these parts. -/
def Ent (l : List HP) (φ : World → Prop) : Prop := ∀ w0 w, St w0 l w → φ w
def Blk (b : Nat) (o : Obj) : HP := fun h => h b = some o
/-- The world as it was. -/
def Old (w0 : World) : HP := fun h => h = hl w0

section
variable {w0 w w' : World} {l l' : List HP} {P P' : HP}
theorem St.pull (h : St w0 l w) (n : Nat) : St w0 (pull n l) w := ⟨h.os, h.tape, h.output, h.size, h.sat.pull n⟩
theorem St.push (h : St w0 l w) (n : Nat) : St w0 (push n l) w := ⟨h.os, h.tape, h.output, h.size, h.sat.push n⟩
theorem St.swap {Q : HP} (h : St w0 (P :: Q :: l) w) : St w0 (Q :: P :: l) w := ⟨h.os, h.tape, h.output, h.size, h.sat.swap⟩
theorem St.sel (h : St w0 l w) (is : List Nat) (d : Nat := 0) : St w0 (sel is d l) w := ⟨h.os, h.tape, h.output, h.size, (h.sat.picks _ is).cut d _⟩
theorem St.drop (h : St w0 (P :: l) w) : St w0 l w := ⟨h.os, h.tape, h.output, h.size, h.sat.drop⟩
theorem St.dropL {k : List HP} (h : St w0 (k ++ l) w) : St w0 l w := by
  induction k with
  | nil => exact h
  | cons P k ih => exact ih h.drop
theorem St.perm (p : l.Perm l') (h : St w0 l w) : St w0 l' w := ⟨h.os, h.tape, h.output, h.size, h.sat.perm p⟩
theorem St.flat (h : St w0 (All l :: l') w) : St w0 (l ++ l') w := ⟨h.os, h.tape, h.output, h.size, h.sat.flat⟩
theorem St.fold (h : St w0 (l ++ l') w) : St w0 (All l :: l') w := ⟨h.os, h.tape, h.output, h.size, h.sat.fold⟩
theorem St.imp (i : ∀ h, P h → P' h) (h : St w0 (P :: l) w) : St w0 (P' :: l) w := ⟨h.os, h.tape, h.output, h.size, h.sat.head_imp i⟩
theorem St.tail (i : ∀ h, Sat l h → Sat l' h) (h : St w0 (P :: l) w) : St w0 (P :: l') w := ⟨h.os, h.tape, h.output, h.size, h.sat.cons_imp i⟩
theorem St.ex {α : Type} {Q : α → HP} (h : St w0 ((fun k => ∃ x, Q x k) :: l) w) : ∃ x, St w0 (Q x :: l) w := by
  obtain ⟨h1, h2, ⟨x, p⟩, q, d, s1, s2⟩ := h.sat
  exact ⟨x, h.os, h.tape, h.output, h.size, h1, h2, p, q, d, s1, s2⟩
theorem St.pure {φ : Prop} (h : St w0 ((fun k => φ ∧ P k) :: l) w) : φ ∧ St w0 (P :: l) w := by
  obtain ⟨h1, h2, ⟨x, p⟩, q, d, s1, s2⟩ := h.sat
  exact ⟨x, h.os, h.tape, h.output, h.size, h1, h2, p, q, d, s1, s2⟩
theorem St.head (h : St w0 (P :: l) w) : ∃ k, P k ∧ Sub k (hl w) := by
  obtain ⟨h1, h2, p, q, d, s1, s2⟩ := h.sat
  exact ⟨h1, p, s1⟩
theorem St.heap (h : St w0 l w) (e : w'.heap = w.heap) (e1 : w'.os = w.os) (e2 : w'.tape = w.tape) (e3 : w'.output = w.output) : St w0 l w' :=
  ⟨e1.trans h.os, e2.trans h.tape, e3.trans h.output, e ▸ h.size, by unfold hl; rw [e]; exact h.sat⟩
theorem St.drew (h : St w0 l w) : St w0 l w.drew := h.heap rfl rfl rfl rfl
theorem St.drewN (h : St w0 l w) (n : Nat) : St w0 l (w.drewN n) := h.heap rfl rfl rfl rfl
theorem St.drawn (h : St w0 l w) (n : Nat) : St w0 l { w with drawn := n } := h.heap rfl rfl rfl rfl
theorem St.below (h : St w0 l w) (k : Below w.heap.size w w') : St w0 l w' :=
  ⟨k.os.trans h.os, k.tape.trans h.tape, k.output.trans h.output, Nat.le_trans h.size k.size, h.sat.mono fun b o e => by
    have hb : b < w.heap.size := (Array.getElem?_eq_some_iff.1 e).1
    exact (k.block b hb).trans e⟩
theorem hl_lt {b : Nat} {o : Obj} (e : hl w b = some o) : b < w.heap.size := (Array.getElem?_eq_some_iff.1 e).1
/-- The frame rule: one part turns into another, in its own blocks and in new ones. -/
theorem St.step (h : St w0 (P :: l) w) (e1 : w'.os = w.os) (e2 : w'.tape = w.tape) (e3 : w'.output = w.output) (e4 : w.heap.size ≤ w'.heap.size)
    (hs : ∀ k, P k → Sub k (hl w) → ∃ k', P' k' ∧ Sub k' (hl w') ∧ (∀ b, k' b ≠ none → k b ≠ none ∨ w.heap.size ≤ b) ∧ (∀ b, b < w.heap.size → k b = none → w'.heap[b]? = w.heap[b]?)) : St w0 (P' :: l) w' := by
  obtain ⟨h1, h2, p, q, d, s1, s2⟩ := h.sat
  obtain ⟨k', p', s', n', f'⟩ := hs h1 p s1
  refine ⟨e1.trans h.os, e2.trans h.tape, e3.trans h.output, Nat.le_trans h.size e4, k', h2, p', q, ?_, s', ?_⟩
  · intro b
    cases hk : k' b with
    | none => exact .inl rfl
    | some o =>
      right
      rcases n' b (by rw [hk]; simp) with h1b | hb
      · exact (d b).resolve_left h1b
      · cases h2b : h2 b with
        | none => rfl
        | some o2 => have := hl_lt (s2 b o2 h2b); omega
  · intro b o e
    have hb := hl_lt (s2 b o e)
    have h1b : h1 b = none := (d b).resolve_right (by rw [e]; simp)
    exact (f' b hb h1b).trans (s2 b o e)
theorem St.alloc (h : St w0 l w) (o : Obj) : St w0 (Blk w.heap.size o :: l) (w.alloc o) := by
  refine ⟨h.os, h.tape, h.output, by simp; have := h.size; omega, fun b => if b = w.heap.size then some o else none, hl w, by simp [Blk], h.sat, ?_, ?_, ?_⟩
  · intro b
    by_cases hb : b = w.heap.size
    · right; subst hb; simp [hl]
    · left; simp [hb]
  · intro b o' e
    by_cases hb : b = w.heap.size
    · subst hb; simp at e; subst e; exact heap_alloc_new w _
    · simp [hb] at e
  · intro b o' e
    have := hl_lt e
    show (w.heap.push o)[b]? = _
    rw [Array.getElem?_push, if_neg (by omega)]
    exact e
theorem St.blk {b : Nat} {o : Obj} (h : St w0 (Blk b o :: l) w) : w.heap[b]? = some o := by
  obtain ⟨k, p, s⟩ := h.head
  exact s b o p
theorem St.lt {b : Nat} {o : Obj} (h : St w0 (Blk b o :: l) w) : b < w.heap.size := hl_lt (w := w) h.blk
theorem St.cell {b : Nat} {cs : Array Value} {t : TypeId} {fr : Nat × Nat} (h : St w0 (Blk b (.cells cs t fr) :: l) w) (i : Nat) : w.cell? ⟨b, i, none⟩ = cs[i]? := by
  simp [World.cell?, h.blk]
theorem St.free {b : Nat} {cs : Array Value} {t : TypeId} (h : St w0 (Blk b (.cells cs t (0, 0)) :: l) w) (i : Nat) : w.frozen? ⟨b, i, none⟩ = false := by
  simp [World.frozen?, h.blk]
theorem St.ne {b b' : Nat} {o o' : Obj} (h : St w0 (Blk b o :: Blk b' o' :: l) w) : b ≠ b' := by
  obtain ⟨h1, h2, p, ⟨h3, h4, q, r, d34, s3, s4⟩, d12, s1, s2⟩ := h.sat
  rintro rfl
  have e := s3 _ _ q
  rcases d12 b with h | h
  · unfold Blk at p; rw [h] at p; cases p
  · rw [h] at e; cases e
/-- A block of this kind becomes another. -/
theorem St.upd {b : Nat} {o o' : Obj} (h : St w0 (Blk b o :: l) w) (e1 : w'.os = w.os) (e2 : w'.tape = w.tape) (e3 : w'.output = w.output)
    (e4 : w.heap.size ≤ w'.heap.size) (hb : w'.heap[b]? = some o') (hf : ∀ c, c < w.heap.size → c ≠ b → w'.heap[c]? = w.heap[c]?) : St w0 (Blk b o' :: l) w' := by
  refine h.step e1 e2 e3 e4 fun k p s => ⟨fun c => if c = b then some o' else none, by simp [Blk], ?_, ?_, ?_⟩
  · intro c o2 e
    by_cases hc : c = b
    · subst hc; simp at e; subst e; exact hb
    · simp [hc] at e
  · intro c hc
    by_cases hcb : c = b
    · subst hcb; left; unfold Blk at p; rw [p]; simp
    · simp [hcb] at hc
  · intro c hc hk
    refine hf c hc ?_
    rintro rfl
    unfold Blk at p; rw [p] at hk; cases hk
theorem heap_setCell_at (w : World) (b i : Nat) (v : Value) {cs : Array Value} {t : TypeId} {fr : Nat × Nat} (h : w.heap[b]? = some (.cells cs t fr)) :
    (w.setCell ⟨b, i, none⟩ v).heap[b]? = some (.cells (cs.setIfInBounds i v) t fr) := by
  simp [World.setCell, Array.getElem?_modify, h]
theorem St.set {b : Nat} {cs : Array Value} {t : TypeId} {fr : Nat × Nat} (h : St w0 (Blk b (.cells cs t fr) :: l) w) (i : Nat) (v : Value) :
    St w0 (Blk b (.cells (cs.setIfInBounds i v) t fr) :: l) (w.setCell ⟨b, i, none⟩ v) :=
  h.upd rfl rfl rfl (by simp) (heap_setCell_at w b i v h.blk) fun c _ hc => Below.heap_setCell _ _ _ _ hc
theorem St.setObj {b : Nat} {o : Obj} (o' : Obj) (h : St w0 (Blk b o :: l) w) : St w0 (Blk b o' :: l) { w with heap := w.heap.setIfInBounds b o' } := by
  have hlt := h.lt
  refine h.upd rfl rfl rfl (by simp) (by simp [hlt]) fun c _ hc => ?_
  show (w.heap.setIfInBounds b o')[c]? = w.heap[c]?
  rw [Array.getElem?_setIfInBounds_ne (Ne.symm hc)]
theorem St.old (h : St w0 (Old w0 :: l) w) : Below w0.heap.size w0 w := by
  obtain ⟨k0, p, q⟩ := h.head
  unfold Old at p; subst p
  refine ⟨h.os, h.tape, h.output, h.size, fun k hk => ?_⟩
  have e : hl w0 k = some w0.heap[k] := Array.getElem?_eq_some_iff.2 ⟨hk, rfl⟩
  rw [show w.heap[k]? = some w0.heap[k] from q k _ e]
  exact e.symm
theorem St.one (h : St w0 (P :: l) w) : St w0 [P] w := ⟨h.os, h.tape, h.output, h.size, h.sat.cons_imp (l' := []) fun _ _ => trivial⟩
theorem St.two {Q : HP} (h : St w0 (P :: Q :: l) w) : St w0 [P, Q] w := ⟨h.os, h.tape, h.output, h.size, h.sat.cons_imp (l' := [Q]) fun _ k => k.cons_imp (l' := []) fun _ _ => trivial⟩
theorem St.start (w : World) : St w [Old w] w := ⟨rfl, rfl, rfl, Nat.le_refl _, hl w, fun _ => none, rfl, trivial, fun _ => .inr rfl, Sub.refl _, fun _ _ e => (nomatch e)⟩
end

/-- A condition on worlds, under a name of its own. -/
def Hd (S : World → Prop) (w : World) : Prop := S w
/-- A part that stays: a condition on worlds without a text, its cells, that nothing in it is frozen. -/
theorem hold (g : Nat) (cs : Array Value) (t : TypeId) : ∃ S : World → Prop, (∀ (w0 w : World) (l : List HP), St w0 (Blk g (.cells cs t (0, 0)) :: l) w → Hd S w) ∧
    (∀ w i v, Hd S w → cs[i]? = some v → w.cell? ⟨g, i, none⟩ = some v) ∧ (∀ w i, Hd S w → w.frozen? ⟨g, i, none⟩ = false) :=
  ⟨fun w => ∃ w0 l, St w0 (Blk g (.cells cs t (0, 0)) :: l) w, fun w0 w l h => ⟨w0, l, h⟩, fun w i v ⟨_, _, h⟩ e => (h.cell i).trans e, fun w i ⟨_, _, h⟩ => h.free i⟩

/-! ### Entailments -/
section
variable {l : List HP} {P : HP} {φ ψ : World → Prop}
theorem Ent.tail (h : Ent l φ) : Ent (P :: l) φ := fun w0 w s => h w0 w s.drop
theorem Ent.imp (h : Ent l φ) (i : ∀ w, φ w → ψ w) : Ent l ψ := fun w0 w s => i w (h w0 w s)
theorem Ent.use {w0 w : World} (h : Ent l φ) (s : St w0 l w) : φ w := h w0 w s
/-- What a part says of its own blocks. -/
theorem Ent.of_head (h : ∀ (w : World) k, P k → Sub k (hl w) → φ w) : Ent (P :: l) φ := fun _ w s => by
  obtain ⟨k, p, q⟩ := s.head
  exact h w k p q
theorem Ent.old {w0 : World} (h : ∀ w : World, (∀ (b : Nat) (o : Obj), w0.heap[b]? = some o → w.heap[b]? = some o) → φ w) : Ent (Old w0 :: l) φ :=
  Ent.of_head fun w k p q => h w fun b o e => q b o (by unfold Old at p; subst p; exact e)
end
end Go.Proofs.YtnmkdhoijdoccaaDoor.SL
