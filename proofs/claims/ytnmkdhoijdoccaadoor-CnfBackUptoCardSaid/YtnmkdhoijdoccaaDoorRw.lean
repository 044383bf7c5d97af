/- Arr of memory: what a slice of the call's own leads to, as a part; appending, reading, storing. -/
import Derived.Test.YtnmkdhoijdoccaaDoorSL
import Derived.Deep.OwnRows
set_option linter.unusedVariables false
set_option linter.unusedSimpArgs false
namespace Go.Proofs.YtnmkdhoijdoccaaDoor.SL
open Go Go.RowKit

def Row (e : TypeId) (sz : Nat) (v : Value) (n : Nat) (xs : List Value) : HP := fun h =>
  xs.length = n * sz ∧ ((v = .slice none 0 0 ∧ n = 0) ∨
    ∃ g cap cur, v = .slice (some ⟨g, 0, none⟩) n cap ∧ h g = some (.cells cur e (0, 0)) ∧ n ≤ cap ∧ cap ≤ maxLen ∧ cur.size = cap * sz ∧ cur.toList.take (n * sz) = xs)

section
variable {w0 w w' : World} {l : List HP} {e : TypeId} {sz n n' : Nat} {v v' : Value} {xs xs' : List Value}
theorem St.owns (h : St w0 (Row e sz v n xs :: l) w) : w.ownsRow 0 e sz v n xs := by
  obtain ⟨k, ⟨hl, p⟩, q⟩ := h.head
  refine ⟨hl, ?_⟩
  rcases p with p | ⟨g, cap, cur, hv, hg, r⟩
  · exact .inl p
  · exact .inr ⟨g, cap, cur, hv, Nat.zero_le _, q _ _ hg, r⟩
/-- A row that was appended to, or written. -/
theorem St.row_step (h : St w0 (Row e sz v n xs :: l) w) (ho : w'.ownsRow 0 e sz v' n' xs') (hg : w.grownBy w' v.ownBlock)
    (hat : v'.ownBlock = v.ownBlock ∨ (∀ k, v'.ownBlock = some k → w.heap.size ≤ k)) : St w0 (Row e sz v' n' xs' :: l) w' := by
  refine h.step hg.os hg.tape hg.output hg.size fun k p s => ?_
  have hfar : ∀ b, b < w.heap.size → k b = none → w'.heap[b]? = w.heap[b]? := by
    intro b hb hk
    refine hg.block b hb ?_
    rcases p.2 with ⟨rfl, _⟩ | ⟨g, cap, cur, rfl, hgg, _⟩
    · simp [Value.ownBlock]
    · simp only [Value.ownBlock]
      intro he
      have : b = g := by simpa using he
      subst this
      rw [hk] at hgg; cases hgg
  rcases ho with ⟨hl, ⟨rfl, h0⟩ | ⟨g, cap, cur, rfl, _, hgg, r⟩⟩
  · exact ⟨fun _ => none, ⟨hl, .inl ⟨rfl, h0⟩⟩, fun _ _ e => (nomatch e), fun b hb => absurd rfl hb, hfar⟩
  · refine ⟨fun c => if c = g then some (.cells cur e (0, 0)) else none, ⟨hl, .inr ⟨g, cap, cur, rfl, by simp, r⟩⟩, ?_, ?_, hfar⟩
    · intro c o e
      by_cases hc : c = g
      · subst hc; simp at e; subst e; exact hgg
      · simp [hc] at e
    · intro c hc
      by_cases hcg : c = g
      · subst hcg
        rcases hat with hat | hat
        · left
          rcases p.2 with ⟨rfl, _⟩ | ⟨g', cap', cur', rfl, hgg', _⟩
          · simp [Value.ownBlock] at hat
          · have : c = g' := by simpa [Value.ownBlock] using hat
            subst this; rw [hgg']; simp
        · right; exact hat c rfl
      · simp [hcg] at hc
theorem St.row_nil (h : St w0 l w) (e : TypeId) (sz : Nat) : St w0 (Row e sz (.slice none 0 0) 0 [] :: l) w :=
  ⟨h.os, h.tape, h.output, h.size, fun _ => none, hl w, ⟨by simp, .inl ⟨rfl, rfl⟩⟩, h.sat, fun _ => .inl rfl, fun _ _ e => (nomatch e), Sub.refl _⟩
theorem St.row_of_blk {b : Nat} {cur : Array Value} (h : St w0 (Blk b (.cells cur e (0, 0)) :: l) w) (n cap : Nat) (hn : n ≤ cap) (hc : cap ≤ maxLen) (hs : cur.size = cap * sz) :
    St w0 (Row e sz (.slice (some ⟨b, 0, none⟩) n cap) n (cur.toList.take (n * sz)) :: l) w :=
  h.imp fun k p => ⟨by rw [List.length_take, Array.length_toList, hs]; exact Nat.min_eq_left (Nat.mul_le_mul_right _ hn), .inr ⟨b, cap, cur, rfl, p, hn, hc, hs, rfl⟩⟩
end

/-- How values of a kind lie in memory: so many cells each. -/
structure Cd (α : Type) where
  sz : Nat
  enc : α → List Value
  len : ∀ x, (enc x).length = sz
  one : ∀ x, ∀ u ∈ enc x, u.oneCell' = true
  pos : 0 < sz
def cInt (k : IntKind) : Cd Int := ⟨1, fun x => [.int k x], fun _ => rfl, by simp [Value.oneCell'], by decide⟩
def cNat (k : IntKind) : Cd Nat := ⟨1, fun x => [.int k x], fun _ => rfl, by simp [Value.oneCell'], by decide⟩
def cBool : Cd Bool := ⟨1, fun x => [.bool x], fun _ => rfl, by simp [Value.oneCell'], by decide⟩
def cStr : Cd ByteArray := ⟨1, fun x => [.string x], fun _ => rfl, by simp [Value.oneCell'], by decide⟩

def Cd.all {α : Type} (d : Cd α) (xs : List α) : List Value := xs.flatMap d.enc
section
variable {α : Type} (d : Cd α)
theorem Cd.all_length (xs : List α) : (d.all xs).length = xs.length * d.sz := by
  induction xs with
  | nil => simp [Cd.all]
  | cons x xs ih => simp only [Cd.all, List.flatMap_cons, List.length_append, d.len, List.length_cons] at *; rw [ih, Nat.succ_mul]; omega
theorem Cd.all_append (xs ys : List α) : d.all (xs ++ ys) = d.all xs ++ d.all ys := by simp [Cd.all]
theorem Cd.all_one (xs : List α) : ∀ u ∈ d.all xs, u.oneCell' = true := by
  intro u hu
  obtain ⟨x, _, hx⟩ := List.mem_flatMap.1 hu
  exact d.one x u hx
theorem Cd.all_get (xs : List α) : ∀ i x j, xs[i]? = some x → j < d.sz → (d.all xs)[i * d.sz + j]? = (d.enc x)[j]? := by
  induction xs with
  | nil => intro i x j h; simp at h
  | cons y ys ih =>
    intro i x j h hj
    show (d.enc y ++ d.all ys)[i * d.sz + j]? = _
    cases i with
    | zero =>
      have : y = x := by simpa using h
      subst this
      rw [List.getElem?_append_left (by rw [d.len]; omega)]
      simp
    | succ i =>
      have := ih i x j (by simpa using h) hj
      rw [List.getElem?_append_right (by rw [d.len, Nat.succ_mul]; omega), d.len, ← this]
      congr 1
      rw [Nat.succ_mul]; omega
theorem Cd.all_set (h1 : d.sz = 1) (xs : List α) (i : Nat) (y : α) (u : Value) (hu : d.enc y = [u]) : d.all (xs.set i y) = (d.all xs).set i u := by
  induction xs generalizing i with
  | nil => simp [Cd.all]
  | cons x xs ih =>
    have hx : ∃ c, d.enc x = [c] := List.length_eq_one_iff.1 (by rw [d.len, h1])
    obtain ⟨c, hc⟩ := hx
    cases i with
    | zero => simp [Cd.all, hu, hc]
    | succ i =>
      have := ih i
      simp only [Cd.all, List.set_cons_succ, List.flatMap_cons, hc, List.singleton_append] at *
      rw [this]
theorem Cd.all_set_cell (xs : List α) : ∀ (i : Nat) (x y : α) (j : Nat) (u : Value), xs[i]? = some x → j < d.sz → d.enc y = (d.enc x).set j u → d.all (xs.set i y) = (d.all xs).set (i * d.sz + j) u := by
  induction xs with
  | nil => intro i x y j u h; simp at h
  | cons z xs ih =>
    intro i x y j u h hj hy
    have hl := d.len z
    cases i with
    | zero =>
      have : z = x := by simpa using h
      subst this
      simp only [List.set_cons_zero, Cd.all, List.flatMap_cons, Nat.zero_mul, Nat.zero_add, hy]
      rw [List.set_append_left _ _ (by omega)]
    | succ i =>
      have h1 := ih i x y j u (by simpa using h) hj hy
      simp only [Cd.all, List.set_cons_succ, List.flatMap_cons] at *
      rw [h1, List.set_append_right _ _ (by rw [hl, Nat.succ_mul]; omega), hl]
      congr 2
      rw [Nat.succ_mul]; omega
theorem Cd.all_take (xs : List α) (m : Nat) : d.all (xs.take m) = (d.all xs).take (m * d.sz) := by
  induction xs generalizing m with
  | nil => simp [Cd.all]
  | cons z xs ih =>
    have hl := d.len z
    cases m with
    | zero => simp [Cd.all]
    | succ m =>
      show d.enc z ++ d.all (xs.take m) = (d.enc z ++ d.all xs).take ((m + 1) * d.sz)
      have e1 : (m + 1) * d.sz = d.sz + m * d.sz := by rw [Nat.succ_mul, Nat.add_comm]
      rw [ih, List.take_append, e1, List.take_of_length_le (l := d.enc z) (by omega), hl, Nat.add_sub_cancel_left]
theorem Cd.all_replicate (x : α) (u : Value) (hx : d.enc x = [u]) (n : Nat) : d.all (List.replicate n x) = List.replicate n u := by
  induction n with
  | zero => rfl
  | succ n ih => simp only [Cd.all, List.replicate_succ, List.flatMap_cons, hx] at *; rw [ih]; rfl
theorem Cd.all_nil : d.all ([] : List α) = [] := rfl
end

/-- A row of such values, of the call's own. -/
def Arr {α : Type} (d : Cd α) (e : TypeId) (v : Value) (xs : List α) : HP := Row e d.sz v xs.length (d.all xs)
/-- A slice of such values that can be read. -/
def Rd {α : Type} (d : Cd α) (v : Value) (xs : List α) (w : World) : Prop :=
  ∃ A c, v = .slice A xs.length c ∧ xs.length ≤ maxLen ∧ ∀ i x, xs[i]? = some x → ∃ ad, A = some ad ∧ ∀ j u, (d.enc x)[j]? = some u → w.cell? (ad.add (i * d.sz + j)) = some u

section
variable {α : Type} {d : Cd α} {w0 w w' : World} {l : List HP} {e : TypeId} {v v' : Value} {xs ys : List α}
theorem rd_of_owns (h : w.ownsRow 0 e d.sz v xs.length (d.all xs)) : Rd d v xs w := by
  rcases h.2 with ⟨rfl, h0⟩ | ⟨g, cap, cur, rfl, _, hg, hn, hm, hs, ht⟩
  · obtain rfl : xs = [] := List.eq_nil_of_length_eq_zero h0
    exact ⟨none, 0, rfl, by simp, fun i x hx => by simp at hx⟩
  · refine ⟨_, cap, rfl, Nat.le_trans hn hm, fun i x hx => ⟨_, rfl, fun j u hu => ?_⟩⟩
    have hj : j < d.sz := by
      have := (List.getElem?_eq_some_iff.1 hu).1
      rwa [d.len] at this
    exact h.cells (g := g) rfl _ _ ((d.all_get xs i x j hx hj).trans hu)
theorem St.rd (h : St w0 (Arr d e v xs :: l) w) : Rd d v xs w := rd_of_owns h.owns
theorem Ent.rd : Ent (Arr d e v xs :: l) (Rd d v xs) := fun _ _ h => h.rd
theorem St.rows_nil (h : St w0 l w) (d : Cd α) (e : TypeId) : St w0 (Arr d e (.slice none 0 0) ([] : List α) :: l) w := h.row_nil e d.sz
theorem St.arr_form (h : St w0 (Arr d e v xs :: l) w) (hne : 0 < xs.length) : ∃ g c, v = .slice (some ⟨g, 0, none⟩) xs.length c := by
  rcases h.owns.2 with ⟨_, h0⟩ | ⟨g, cap, cur, rfl, _⟩
  · omega
  · exact ⟨g, cap, rfl⟩
theorem St.arr_lt {g n c : Nat} (h : St w0 (Arr d e (.slice (some ⟨g, 0, none⟩) n c) xs :: l) w) : n = xs.length ∧ n ≤ c ∧ c ≤ maxLen := by
  rcases h.owns.2 with ⟨h0, _⟩ | ⟨g', cap, cur, hv, _, _, h1, h2, _⟩
  · cases h0
  · injection hv with h3 h4 h5
    subst h5
    exact ⟨h4, by omega, h2⟩
theorem St.arr_cell {g n c : Nat} (h : St w0 (Arr d e (.slice (some ⟨g, 0, none⟩) n c) xs :: l) w) (i : Nat) (x : α) (hx : xs[i]? = some x) (j : Nat) (u : Value) (hu : (d.enc x)[j]? = some u) :
    w.cell? ⟨g, i * d.sz + j, none⟩ = some u ∧ w.frozen? ⟨g, i * d.sz + j, none⟩ = false := by
  have hn := h.arr_lt.1
  subst hn
  have ho := h.owns
  have hj : j < d.sz := by
    have := (List.getElem?_eq_some_iff.1 hu).1
    rwa [d.len] at this
  have hadd : ∀ n, (⟨g, 0, none⟩ : Addr).add n = ⟨g, n, none⟩ := fun n => by unfold Addr.add; split <;> simp_all
  have h1 := ho.cells (g := g) rfl _ _ ((d.all_get xs i x j hx hj).trans hu)
  rw [hadd] at h1
  refine ⟨h1, ?_⟩
  rcases ho.2 with ⟨h0, _⟩ | ⟨g', cap, cur, hv, _, hg, _⟩
  · cases h0
  · injection hv with h3
    injection h3 with h3
    injection h3 with h3
    subst h3
    simp [World.frozen?, hg]
theorem St.arr_set {g n c : Nat} (h : St w0 (Arr d e (.slice (some ⟨g, 0, none⟩) n c) xs :: l) w) (i : Nat) (x y : α) (hx : xs[i]? = some x) (j : Nat) (hj : j < d.sz) (u : Value) (hy : d.enc y = (d.enc x).set j u) :
    St w0 (Arr d e (.slice (some ⟨g, 0, none⟩) n c) (xs.set i y) :: l) (w.setCell ⟨g, i * d.sz + j, none⟩ u) := by
  have hn := h.arr_lt.1
  subst hn
  have hs := World.ownsRow.stored h.owns (i * d.sz + j) u
  have h1 := St.row_step h hs.1 (by simpa [Value.ownBlock] using hs.2) (.inl rfl)
  unfold Arr
  rw [List.length_set, d.all_set_cell xs i x y j u hx hj hy]
  exact h1
theorem St.arr_cell1 {g n c : Nat} (h : St w0 (Arr d e (.slice (some ⟨g, 0, none⟩) n c) xs :: l) w) (h1 : d.sz = 1) (i : Nat) (x : α) (hx : xs[i]? = some x) (u : Value) (hu : d.enc x = [u]) :
    w.cell? ⟨g, i, none⟩ = some u ∧ w.frozen? ⟨g, i, none⟩ = false := by
  have := h.arr_cell i x hx 0 u (by rw [hu]; rfl)
  rwa [h1, Nat.mul_one, Nat.add_zero] at this
theorem St.arr_set1 {g n c : Nat} (h : St w0 (Arr d e (.slice (some ⟨g, 0, none⟩) n c) xs :: l) w) (h1 : d.sz = 1) (i : Nat) (hi : i < xs.length) (y : α) (u : Value) (hu : d.enc y = [u]) :
    St w0 (Arr d e (.slice (some ⟨g, 0, none⟩) n c) (xs.set i y) :: l) (w.setCell ⟨g, i, none⟩ u) := by
  obtain ⟨x', hx'⟩ := List.length_eq_one_iff.1 ((d.len xs[i]).trans h1)
  have := h.arr_set i xs[i] y (List.getElem?_eq_getElem hi) 0 d.pos u (by rw [hu, hx']; rfl)
  rwa [h1, Nat.mul_one, Nat.add_zero] at this
/-- The first m of them: 'xs[:m]'. -/
theorem St.arr_take {g n c : Nat} (h : St w0 (Arr d e (.slice (some ⟨g, 0, none⟩) n c) xs :: l) w) (m : Nat) (hm : m ≤ n) :
    St w0 (Arr d e (.slice (some ⟨g, 0, none⟩) m c) (xs.take m) :: l) w := by
  have hn := h.arr_lt.1
  subst hn
  refine h.imp fun k p => ?_
  obtain ⟨hl, p⟩ := p
  have hlen : (xs.take m).length = m := by simp; omega
  unfold Arr Row
  rw [hlen, d.all_take]
  refine ⟨by rw [List.length_take, d.all_length]; exact Nat.min_eq_left (Nat.mul_le_mul_right _ hm), ?_⟩
  rcases p with ⟨h0, _⟩ | ⟨g', cap, cur, hv, hg, h1, h2, h3, h4⟩
  · cases h0
  · refine .inr ⟨g', cap, cur, ?_, hg, by omega, h2, h3, ?_⟩
    · injection hv with a b c; rw [a, c]
    · rw [← h4, List.take_take]
      congr 1
      exact (Nat.min_eq_left (Nat.mul_le_mul_right _ hm)).symm
theorem madeCells_one (z : Value) (n : Nat) : (madeCells #[z] n).toList = List.replicate n z := by
  apply List.ext_getElem
  · simp [madeCells]
  · intro i h1 h2
    simp [madeCells, Nat.mod_one]
theorem St.arr_made {b n : Nat} {z : Value} {x : α} (h : St w0 (Blk b (.cells (madeCells #[z] n) e (0, 0)) :: l) w) (h1 : d.sz = 1) (hx : d.enc x = [z]) (hn : n ≤ maxLen) :
    St w0 (Arr d e (.slice (some ⟨b, 0, none⟩) n n) (List.replicate n x) :: l) w := by
  have h2 := h.row_of_blk (sz := d.sz) n n (Nat.le_refl _) hn (by rw [size_madeCells, h1, Nat.mul_one])
  unfold Arr
  rw [List.length_replicate, d.all_replicate x z hx]
  rw [madeCells_one, h1, Nat.mul_one, List.take_of_length_le (by simp)] at h2
  rw [h1]; exact h2
theorem St.arr_empty {b n : Nat} {z : Value} (h : St w0 (Blk b (.cells (madeCells #[z] n) e (0, 0)) :: l) w) (h1 : d.sz = 1) (hn : n ≤ maxLen) :
    St w0 (Arr d e (.slice (some ⟨b, 0, none⟩) 0 n) ([] : List α) :: l) w := by
  have h2 := h.row_of_blk (sz := d.sz) 0 n (Nat.zero_le _) hn (by rw [size_madeCells, h1, Nat.mul_one])
  simpa [Arr, Cd.all] using h2
theorem St.arr_lit {b n : Nat} {cs : Array Value} (h : St w0 (Blk b (.cells cs e (0, 0)) :: l) w) (hn : n = xs.length) (hc : d.all xs = cs.toList) (hm : n ≤ maxLen) :
    St w0 (Arr d e (.slice (some ⟨b, 0, none⟩) n n) xs :: l) w := by
  subst hn
  have hs : cs.size = xs.length * d.sz := by rw [← Array.length_toList, ← hc, d.all_length]
  have h2 := h.row_of_blk (sz := d.sz) xs.length xs.length (Nat.le_refl _) hm hs
  unfold Arr
  rw [← hc, List.take_of_length_le (by rw [d.all_length]; exact Nat.le_refl _)] at h2
  exact h2
theorem Rd.mono (h : Rd d v xs w) (k : ∀ a u, w.cell? a = some u → w'.cell? a = some u) : Rd d v xs w' := by
  obtain ⟨A, c, rfl, hm, hc⟩ := h
  refine ⟨A, c, rfl, hm, fun i x hx => ?_⟩
  obtain ⟨ad, rfl, hr⟩ := hc i x hx
  exact ⟨ad, rfl, fun j u hu => k _ _ (hr j u hu)⟩
theorem Rd.below (h : Rd d v xs w) (k : Below w.heap.size w w') : Rd d v xs w' :=
  h.mono fun a u hu => (k.cell (World.block_lt_of_cell? w a hu)).trans hu
theorem Rd.drew (h : Rd d v xs w) : Rd d v xs w.drew := h.mono fun _ _ h => h
theorem Rd.all (h : Rd d v xs w) (hne : xs ≠ []) : ∃ ad c, v = .slice (some ad) xs.length c ∧ ∀ j u, (d.all xs)[j]? = some u → w.cell? (ad.add j) = some u := by
  obtain ⟨A, c, rfl, hm, hc⟩ := h
  cases hsz : d.sz with
  | zero =>
    cases xs with
    | nil => exact absurd rfl hne
    | cons x xs =>
      obtain ⟨ad, rfl, _⟩ := hc 0 x rfl
      refine ⟨ad, c, rfl, fun j u hu => ?_⟩
      have := (List.getElem?_eq_some_iff.1 hu).1
      rw [d.all_length, hsz] at this
      omega
  | succ s =>
    cases xs with
    | nil => exact absurd rfl hne
    | cons x0 xs0 =>
      obtain ⟨ad, rfl, _⟩ := hc 0 x0 rfl
      refine ⟨ad, c, rfl, fun j u hu => ?_⟩
      have hj := (List.getElem?_eq_some_iff.1 hu).1
      rw [d.all_length] at hj
      have hpos : 0 < d.sz := by omega
      have hi : j / d.sz < (x0 :: xs0).length := Nat.div_lt_of_lt_mul (by rw [Nat.mul_comm]; exact hj)
      have hx : (x0 :: xs0)[j / d.sz]? = some (x0 :: xs0)[j / d.sz] := List.getElem?_eq_getElem hi
      obtain ⟨ad', he, hr⟩ := hc _ _ hx
      have hsplit : j / d.sz * d.sz + j % d.sz = j := by rw [Nat.mul_comm]; exact Nat.div_add_mod _ _
      have hm2 := Nat.mod_lt j hpos
      have hget := d.all_get (x0 :: xs0) _ _ _ hx hm2
      rw [hsplit] at hget
      have := hr (j % d.sz) u (hget.symm.trans hu)
      rw [hsplit] at this
      cases he
      exact this
end

theorem rd_at {w : World} {k : IntKind} {A : Option Addr} {xs : List Nat} (hc : ∀ i x, xs[i]? = some x → ∃ ad, A = some ad ∧ ∀ j u, ((cNat k).enc x)[j]? = some u → w.cell? (ad.add (i * (cNat k).sz + j)) = some u)
    (i : Nat) (h : i < xs.length) : ∃ ad, A = some ad ∧ w.cell? (ad.add i) = some (.int k (xs[i] : Nat)) := by
  obtain ⟨ad, e, hr⟩ := hc i xs[i] (List.getElem?_eq_getElem h)
  refine ⟨ad, e, ?_⟩
  have := hr 0 _ rfl
  simpa [cNat] using this
theorem rd_at_int {w : World} {k : IntKind} {A : Option Addr} {xs : List Int} (hc : ∀ i x, xs[i]? = some x → ∃ ad, A = some ad ∧ ∀ j u, ((cInt k).enc x)[j]? = some u → w.cell? (ad.add (i * (cInt k).sz + j)) = some u)
    (i : Nat) (h : i < xs.length) : ∃ ad, A = some ad ∧ w.cell? (ad.add i) = some (.int k xs[i]) := by
  obtain ⟨ad, e, hr⟩ := hc i xs[i] (List.getElem?_eq_getElem h)
  refine ⟨ad, e, ?_⟩
  have := hr 0 _ rfl
  simpa [cInt] using this
theorem rd_at_bool {w : World} {A : Option Addr} {xs : List Bool} (hc : ∀ i x, xs[i]? = some x → ∃ ad, A = some ad ∧ ∀ j u, (cBool.enc x)[j]? = some u → w.cell? (ad.add (i * cBool.sz + j)) = some u)
    (i : Nat) (h : i < xs.length) : ∃ ad, A = some ad ∧ w.cell? (ad.add i) = some (.bool xs[i]) := by
  obtain ⟨ad, e, hr⟩ := hc i xs[i] (List.getElem?_eq_getElem h)
  refine ⟨ad, e, ?_⟩
  have := hr 0 _ rfl
  simpa [cBool] using this

section
variable {P : Program} {α : Type} {d : Cd α} {w0 w : World} {l : List HP} {t ty e : TypeId} {v : Value} {xs ys : List α} {z : Value} {bytes : Nat}
/-- append(v, ys...): v a row of the call's own, ys read from wherever. -/
theorem run_app (ht : P.underlying t = some (.slice e)) (hinfo : (P.info? e).map (fun i => (i.zero, i.size, i.bytes)) = some (some z, d.sz, bytes)) (hz : z.cells.size = d.sz)
    (hst : St w0 (Arr d e v xs :: l) w) {s : Value} (hrd : Rd d s ys w) (hroom : (xs.length + ys.length) * bytes ≤ 140737488355328) (hlen : xs.length + ys.length ≤ 140737488355328) :
    ∃ v' w', (Builtin.append_ #[t, t] ty #[v, s]).run P w = .ok v' w' ∧ St w0 (Arr d e v' (xs ++ ys) :: l) w' := by
  obtain ⟨i0, hi, hzz⟩ := Option.map_eq_some_iff.1 hinfo
  simp only [Prod.mk.injEq] at hzz
  obtain ⟨hz0, hz1, hz2⟩ := hzz
  by_cases hys : ys = []
  · subst hys
    obtain ⟨A, c, rfl, _, _⟩ := hrd
    refine ⟨v, w, ?_, by simpa using hst⟩
    have HO := hst.owns
    simp only [List.length_nil]
    rcases A with _ | ad
    · rcases HO.2 with ⟨rfl, hn⟩ | ⟨g, cap, cur, rfl, _, _, hnc, _⟩
      · simp [Builtin.append_, run_underlying ht, sizeOf, typeInfo, hi, Builtin.lenOf, Builtin.firstCells]
      · simp [Builtin.append_, run_underlying ht, sizeOf, typeInfo, hi, Builtin.lenOf, Builtin.firstCells, hnc, storeCells]
    · rcases HO.2 with ⟨rfl, hn⟩ | ⟨g, cap, cur, rfl, _, _, hnc, _⟩
      · simp [Builtin.append_, run_underlying ht, sizeOf, typeInfo, hi, Builtin.lenOf, Builtin.firstCells, loadCells, loadCellsFrom]
      · simp [Builtin.append_, run_underlying ht, sizeOf, typeInfo, hi, Builtin.lenOf, Builtin.firstCells, hnc, storeCells, loadCells, loadCellsFrom]
  · obtain ⟨ad, c, rfl, hc⟩ := hrd.all hys
    obtain ⟨v', w', hr, h1, h2, h3, h4⟩ := run_append_own_at (P := P) w 0 t ty e i0 z d.sz bytes ht hi hz0 hz1 hz2 hz d.pos v xs.length (d.all xs) hst.owns ad ys.length c (d.all ys) (d.all_length ys) hc (d.all_one ys)
      (by simp only [maxLen]; omega) hroom (Nat.zero_le _)
    refine ⟨v', w', hr, ?_⟩
    have hs := St.row_step hst h1 h2 (h4.imp id fun h4 k hk => by rw [h4] at hk; cases hk; exact Nat.le_refl _)
    unfold Arr
    rw [List.length_append, d.all_append]
    exact hs
theorem wpList_app {ops : Array Oper} {rest : List Oper} {o : Oper} {a : Act} {Q : Exit → Act → World → Prop} (hgd : o.guard = none) (s x : Operand)
    (ho : o.op = .call { callee := .builtin .append, args := #[s, x], argTypes := #[t, t] })
    (ht : P.underlying t = some (.slice e)) (hinfo : (P.info? e).map (fun i => (i.zero, i.size, i.bytes)) = some (some z, d.sz, bytes)) (hz : z.cells.size = d.sz)
    (hst : St w0 (Arr d e v xs :: l) w) (hs : a.eval s = v) {sv : Value} (hx : a.eval x = sv) (hrd : Rd d sv ys w) (hroom : (xs.length + ys.length) * bytes ≤ 140737488355328) (hlen : xs.length + ys.length ≤ 140737488355328)
    (h : ∀ v' w', St w0 (Arr d e v' (xs ++ ys) :: l) w' → wpList P ops Q rest (a.put o.dst v') w') : wpList P ops Q (o :: rest) a w := by
  refine wpList_plain hgd fun K hK => ?_
  obtain ⟨v', w', hr, h2⟩ := run_app (ty := o.type) ht hinfo hz hst hrd hroom hlen
  unfold Oper.wp execOp
  simp only [ho, resolve, invoke, builtin, Sem.run_bind, Sem.run_pure, Result.andThen_ok, List.map_toArray, List.map_cons, List.map_nil, hs, hx, hr]
  exact hK _ _ (h v' w' h2)
theorem step_app {ops : Array Oper} {o : Oper} {a : Act} {K : Act → World → Prop} {Q : Exit → Act → World → Prop} {E : Prop} (hgd : o.guard = none) (s x : Operand)
    (ho : o.op = .call { callee := .builtin .append, args := #[s, x], argTypes := #[t, t] })
    (ht : P.underlying t = some (.slice e)) (hinfo : (P.info? e).map (fun i => (i.zero, i.size, i.bytes)) = some (some z, d.sz, bytes)) (hz : z.cells.size = d.sz)
    (hst : St w0 (Arr d e v xs :: l) w) (hs : a.eval s = v) {sv : Value} (hx : a.eval x = sv) (hrd : Rd d sv ys w) (hroom : (xs.length + ys.length) * bytes ≤ 140737488355328) (hlen : xs.length + ys.length ≤ 140737488355328)
    (h : ∀ v' w', St w0 (Arr d e v' (xs ++ ys) :: l) w' → K (a.put o.dst v') w') : if Region.wanted o (yielded ops a.tmps) = true then Oper.wp P o a w K Q else E := by
  have hw : Region.wanted o (yielded ops a.tmps) = true := by simp [Region.wanted, hgd]
  rw [if_pos hw]
  obtain ⟨v', w', hr, h2⟩ := run_app (ty := o.type) ht hinfo hz hst hrd hroom hlen
  unfold Oper.wp execOp
  simp only [ho, resolve, invoke, builtin, Sem.run_bind, Sem.run_pure, Result.andThen_ok, List.map_toArray, List.map_cons, List.map_nil, hs, hx, hr]
  exact h v' w' h2
/-- What stands in a block that was just made. -/
theorem St.rd_blk {b : Nat} {cs : Array Value} {fr : Nat × Nat} (h : St w0 (Blk b (.cells cs e fr) :: l) w) (n c : Nat) (hn : ys.length = n) (hc : d.all ys = cs.toList) (hm : n ≤ maxLen) :
    Rd d (.slice (some ⟨b, 0, none⟩) n c) ys w := by
  subst hn
  refine ⟨_, c, rfl, hm, fun i x hx => ⟨_, rfl, fun j u hu => ?_⟩⟩
  have hj : j < d.sz := by
    have := (List.getElem?_eq_some_iff.1 hu).1
    rwa [d.len] at this
  have h1 := (d.all_get ys i x j hx hj).trans hu
  rw [hc] at h1
  have hadd : ∀ n, (⟨b, 0, none⟩ : Addr).add n = ⟨b, n, none⟩ := fun n => by unfold Addr.add; split <;> simp_all
  rw [hadd, h.cell]
  simpa using h1
end
end Go.Proofs.YtnmkdhoijdoccaaDoor.SL
