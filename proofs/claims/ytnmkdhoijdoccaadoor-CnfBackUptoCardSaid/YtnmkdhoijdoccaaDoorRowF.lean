/- Rows: slices of slices and formulas opened, with their bulk. -/
import Derived.Test.YtnmkdhoijdoccaaDoorRowK
import Derived.Test.YtnmkdhoijdoccaaDoorRw2
set_option linter.unusedVariables false
set_option linter.unusedSimpArgs false
namespace Go.Proofs.YtnmkdhoijdoccaaDoor
open Go Go.RowKit Go.ChangeShapes Go.WideShapes Go.ChangeAt SL

theorem bulk_sum {H : Type} (a : Nat → Nat) (D : Nat → DataW H) : ∀ (l : List Nat), (∀ i ∈ l, a i ≤ Rows.uptoBulk (D i)) → (l.map a).sum ≤ Rows.uptoBulkAll (l.map D)
  | [], _ => by simp
  | i :: l, h => by
    have h1 := h i List.mem_cons_self
    have h2 := bulk_sum a D l fun j hj => h j (List.mem_cons_of_mem _ hj)
    simp only [List.map_cons, List.sum_cons, Rows.uptoBulkAll]; omega

section
variable {H : Type} {enc : TypeId × Value → H} {P : Program} {w : World} {base : Nat} {spare : Nat → Bool} {held : Bool}

/-- A slice's cells, opened. -/
theorem open_cells {α : Type} [Inhabited α] (d : Cd α) (Q : α → Prop) (g : α → Nat) {t e : TypeId} (ht : P.underlying t = some (.slice e)) (hC : P.cellsOf e = d.sz)
    (hel : ∀ (fuel : Nat) (cs : List Value) (x : DataW H × List MemPlace), DataW.trod enc P w base spare held fuel e cs = some x → cs.length = d.sz → ∃ a : α, cs = d.enc a ∧ Q a ∧ g a ≤ Rows.uptoBulk x.1)
    (fuel : Nat) (cs : List Value) (x : DataW H × List MemPlace) (h : DataW.trod enc P w base spare held fuel t cs = some x) :
    ∃ (s : Slc) (xs : List α), cs = [s.val] ∧ s.2.1 = xs.length ∧ Rd d s.val xs w ∧ (∀ x ∈ xs, Q x) ∧ (xs.map g).sum + 1 ≤ Rows.uptoBulk x.1 := by
  rcases Go.Deep.open_slice ht h with ⟨hc, hx⟩ | ⟨a, len0, cap0, m, n, D, Pl, hc, hb, hl, hm, hmm, hx, hi⟩
  · exact ⟨(none, 0, 0), [], hc, rfl, ⟨none, 0, rfl, Nat.zero_le _, fun i x hx => by simp at hx⟩, fun x hx => (by cases hx), by rw [hx]; simp [Rows.uptoBulk]⟩
  · have hlm : len0 ≤ m := by rw [hmm]; split <;> omega
    have key : ∀ i, ∃ x : α, i < len0 → (Q x ∧ g x ≤ Rows.uptoBulk (D i)) ∧ ∀ j u, (d.enc x)[j]? = some u → w.cell? (a.add (i * d.sz + j)) = some u := by
      intro i
      by_cases hil : i < len0
      · obtain ⟨cs', hcs, htr⟩ := hi i (by omega)
        obtain ⟨-, hlen, hat⟩ := World.cells?_some hcs
        obtain ⟨x, hxe, hq, hbk⟩ := hel _ _ _ htr (by rw [hlen, hC])
        refine ⟨x, fun _ => ⟨⟨hq, hbk⟩, fun j u hu => ?_⟩⟩
        have hj : j < d.sz := by
          have := (List.getElem?_eq_some_iff.1 hu).1
          rw [← hxe, hlen, hC] at this; exact this
        have h1 := hat j (by rw [hC]; exact hj)
        rw [Go.Deep.add_add, hC] at h1
        rw [h1, hxe]; exact hu
      · exact ⟨default, fun h => absurd h hil⟩
    have hf : ∃ f : Nat → α, ∀ i, i < len0 → (Q (f i) ∧ g (f i) ≤ Rows.uptoBulk (D i)) ∧ ∀ j u, (d.enc (f i))[j]? = some u → w.cell? (a.add (i * d.sz + j)) = some u := ⟨fun i => (key i).choose, fun i => (key i).choose_spec⟩
    obtain ⟨f, hf⟩ := hf
    refine ⟨(some a, len0, cap0), (List.range len0).map f, hc, by simp, ⟨some a, cap0, by simp [Slc.val], by simp; exact Nat.le_trans hl hm, fun i x hx => ?_⟩, fun x hx => ?_, ?_⟩
    · rw [List.getElem?_map] at hx
      have hil : i < len0 := by
        by_cases hil : i < len0
        · exact hil
        · rw [List.getElem?_eq_none (by simp; omega)] at hx; simp at hx
      rw [List.getElem?_range hil] at hx
      simp at hx; subst hx
      exact ⟨a, rfl, (hf i hil).2⟩
    · obtain ⟨i, hi, rfl⟩ := List.mem_map.1 hx
      exact (hf i (by simpa using hi)).1.1
    · rw [hx, List.map_map]
      have h1 := bulk_sum (fun i => g (f i)) D (List.range len0) fun i hi => (hf i (by simpa using hi)).1.2
      simp only [Rows.uptoBulk]
      have : (List.map (g ∘ f) (List.range len0)).sum = (List.map (fun i => g (f i)) (List.range len0)).sum := rfl
      omega

theorem sum_one {α : Type} (xs : List α) : (xs.map fun _ => 1).sum = xs.length := by induction xs with | nil => rfl | cons x r ih => simp [ih]; omega
theorem sum_le_of {α : Type} {f : α → Nat} {xs : List α} {x : α} (h : x ∈ xs) : f x ≤ (xs.map f).sum := by
  induction xs with
  | nil => cases h
  | cons y r ih =>
    simp only [List.map_cons, List.sum_cons]
    rcases List.mem_cons.1 h with rfl | h
    · omega
    · have := ih h; omega

/-- Numbers in a cell each. -/
theorem el_intg {e : TypeId} {k : IntKind} {lo hi : Int} (he : P.underlying e = some (.int k)) (hmin : k.min = lo) (hmax : k.max = hi) (fuel : Nat) (cs : List Value) (x : DataW H × List MemPlace)
    (h : DataW.trod enc P w base spare held fuel e cs = some x) (_ : cs.length = (cInt k).sz) : ∃ a : Int, cs = (cInt k).enc a ∧ (lo ≤ a ∧ a ≤ hi) ∧ (fun _ => 1) a ≤ Rows.uptoBulk x.1 := by
  obtain ⟨n, rfl, -, hw⟩ := DataW.trod_int he h
  simp only [Lit.wf, Bool.and_eq_true, decide_eq_true_eq, hmin, hmax] at hw
  exact ⟨n, rfl, hw, bulk_one _⟩
/-- A row of numbers, opened. -/
theorem open_ints1 {t e : TypeId} {k : IntKind} {lo hi : Int} (ht : P.underlying t = some (.slice e)) (he : P.underlying e = some (.int k)) (hC : P.cellsOf e = 1) (hmin : k.min = lo) (hmax : k.max = hi)
    (fuel : Nat) (cs : List Value) (x : DataW H × List MemPlace) (h : DataW.trod enc P w base spare held fuel t cs = some x) :
    ∃ (s : Slc) (xs : List Int), cs = [s.val] ∧ s.2.1 = xs.length ∧ Rd (cInt k) s.val xs w ∧ (∀ x ∈ xs, lo ≤ x ∧ x ≤ hi) ∧ xs.length + 1 ≤ Rows.uptoBulk x.1 := by
  obtain ⟨s, xs, h1, h2, h3, h4, h5⟩ := open_cells (cInt k) (fun a => lo ≤ a ∧ a ≤ hi) (fun _ => 1) ht hC (fun f cs x => el_intg he hmin hmax f cs x) fuel cs x h
  rw [sum_one] at h5
  exact ⟨s, xs, h1, h2, h3, h4, h5⟩
/-- Rows of numbers, opened. -/
theorem open_ints2 {t u e : TypeId} {k : IntKind} {lo hi : Int} (ht : P.underlying t = some (.slice u)) (hu : P.underlying u = some (.slice e)) (he : P.underlying e = some (.int k)) (hC : P.cellsOf e = 1) (hCu : P.cellsOf u = 1) (hmin : k.min = lo) (hmax : k.max = hi)
    (fuel : Nat) (cs : List Value) (x : DataW H × List MemPlace) (h : DataW.trod enc P w base spare held fuel t cs = some x) :
    ∃ (s : Slc) (xss : List (List Int)), cs = [s.val] ∧ s.2.1 = xss.length ∧ Rd2 (cInt k) s.val xss w ∧ (∀ xs ∈ xss, ∀ x ∈ xs, lo ≤ x ∧ x ≤ hi) ∧ (xss.map fun xs => xs.length + 1).sum + 1 ≤ Rows.uptoBulk x.1 := by
  obtain ⟨s, ss, h1, h2, h3, h4, h5⟩ := open_cells cSlc (fun s => ∃ xs : List Int, s.2.1 = xs.length ∧ Rd (cInt k) s.val xs w ∧ ∀ x ∈ xs, lo ≤ x ∧ x ≤ hi) (fun s => s.2.1 + 1) ht hCu (fun f cs x hx _ => by
    obtain ⟨s, xs, h1, h2, h3, h4, h5⟩ := open_ints1 hu he hC hmin hmax f cs x hx
    exact ⟨s, h1, ⟨xs, h2, h3, h4⟩, by rw [h2]; exact h5⟩) fuel cs x h
  have hf : ∃ f : Slc → List Int, ∀ s ∈ ss, s.2.1 = (f s).length ∧ Rd (cInt k) s.val (f s) w ∧ ∀ x ∈ f s, lo ≤ x ∧ x ≤ hi := by
    classical
    refine ⟨fun s => if h : ∃ xs : List Int, s.2.1 = xs.length ∧ Rd (cInt k) s.val xs w ∧ ∀ x ∈ xs, lo ≤ x ∧ x ≤ hi then h.choose else [], fun s hs => ?_⟩
    simp only [dif_pos (h4 s hs)]
    exact (h4 s hs).choose_spec
  obtain ⟨f, hf⟩ := hf
  refine ⟨s, ss.map f, h1, by rw [h2, List.length_map], ⟨ss, by simp, h3, fun i s' xs hs hx => ?_⟩, fun xs hxs => ?_, ?_⟩
  · rw [List.getElem?_map, hs] at hx
    simp at hx; subst hx
    exact (hf s' (List.mem_of_getElem? hs)).2.1
  · obtain ⟨s', hs', rfl⟩ := List.mem_map.1 hxs
    exact (hf s' hs').2.2
  · rw [List.map_map]
    have : List.map ((fun xs : List Int => xs.length + 1) ∘ f) ss = List.map (fun s => s.2.1 + 1) ss := List.map_congr_left fun s hs => by simp [(hf s hs).1]
    rw [this]; exact h5
end

theorem kept_cells {W w : World} (hk : ∀ (b : Nat) (o : Obj), W.heap[b]? = some o → w.heap[b]? = some o) : ∀ a u, W.cell? a = some u → w.cell? a = some u := fun a u ha => by
  have hb : ∃ o, W.heap[a.block]? = some o := by
    cases ho : W.heap[a.block]? with
    | none => rw [World.cell?, ho] at ha; cases ha
    | some o => exact ⟨o, rfl⟩
  obtain ⟨o, ho⟩ := hb
  have := hk _ _ ho
  unfold World.cell? at ha ⊢
  rw [this, ← ho]; exact ha
/-- What is read in the world before is read in all that keep it. -/
theorem ent_old1 {α : Type} {d : Cd α} {v : Value} {xs : List α} {W : World} {l : List HP} (h : Rd d v xs W) : Ent (Old W :: l) (Rd d v xs) :=
  Ent.old fun w hk => h.mono (kept_cells hk)
theorem ent_old2 {α : Type} {d : Cd α} {v : Value} {xss : List (List α)} {W : World} {l : List HP} (h : Rd2 d v xss W) : Ent (Old W :: l) (Rd2 d v xss) :=
  Ent.old fun w hk => h.mono (kept_cells hk)

set_option maxRecDepth 100000 in
/-- A formula's cells, opened. -/
theorem open_form {H : Type} {enc : TypeId × Value → H} {w : World} {base : Nat} {spare : Nat → Bool} {held : Bool} (fuel : Nat) (cs : List Value) (x : DataW H × List MemPlace)
    (h : DataW.trod enc Tryd.prog w base spare held fuel 24 cs = some x) : ∃ (n : Int) (s : Slc) (cls : List (List Int)), cs = [.int .i64 n, s.val] ∧ (-9223372036854775808 ≤ n ∧ n ≤ 9223372036854775807) ∧ Rd2 (cInt .i64) s.val cls w ∧
      (∀ c ∈ cls, ∀ x ∈ c, -9223372036854775808 ≤ x ∧ x ≤ 9223372036854775807) ∧ (cls.map fun c => c.length + 1).sum + 1 ≤ Rows.uptoBulk x.1 := by
  have hst : ∃ fs : Array Field, Tryd.prog.underlying 24 = some (.struct fs) ∧ fs.map (fun f => (f.offset, f.type)) = #[(0, 3), (1, 22)] := ⟨_, Tryd.underlying24, by kernel_rfl⟩
  obtain ⟨fs, hu, hfs⟩ := hst
  have hi : Tryd.prog.underlying 3 = some (.int .i64) := Tryd.underlying3
  have hc1 : Tryd.prog.cellsOf 3 = 1 := by kernel_rfl
  have hc2 : Tryd.prog.cellsOf 22 = 1 := by kernel_rfl
  have hc3 : Tryd.prog.cellsOf 51 = 1 := by kernel_rfl
  have hcF : Tryd.prog.cellsOf 24 = 2 := by kernel_rfl
  obtain ⟨ys, n, -, hx, hcl, hyl, hf⟩ := DataW.trod_struct hu h
  rw [hcF] at hcl
  have hlen : fs.size = 2 := by have := congrArg Array.size hfs; simpa using this
  obtain ⟨c0, c1, rfl⟩ : ∃ a b, cs = [a, b] := by
    match cs, hcl with
    | [a, b], _ => exact ⟨a, b, rfl⟩
  obtain ⟨y0, y1, rfl⟩ : ∃ a b, ys = [a, b] := by
    have : ys.length = 2 := by rw [hyl, hlen]
    match ys, this with
    | [a, b], _ => exact ⟨a, b, rfl⟩
  have get : ∀ i (hi : i < 2), ((fs[i]'(by omega)).offset, (fs[i]'(by omega)).type) = (#[((0 : Nat), (3 : TypeId)), (1, 22)])[i]'(by simpa using hi) := fun i hi => by
    have hget : fs[i]? = some (fs[i]'(by omega)) := Array.getElem?_eq_getElem _
    have h2 : (fs.map (fun f => (f.offset, f.type)))[i]? = some ((fs[i]'(by omega)).offset, (fs[i]'(by omega)).type) := by rw [Array.getElem?_map, hget]; rfl
    rw [hfs, Array.getElem?_eq_getElem (by simpa using hi)] at h2
    exact (Option.some.inj h2).symm
  have g0 : ((fs[0]'(by omega)).offset, (fs[0]'(by omega)).type) = (0, 3) := get 0 (by decide)
  have g1 : ((fs[1]'(by omega)).offset, (fs[1]'(by omega)).type) = (1, 22) := get 1 (by decide)
  simp only [Prod.mk.injEq] at g0 g1
  have f0 := hf 0 _ (Array.getElem?_eq_getElem (by omega))
  have f1 := hf 1 _ (Array.getElem?_eq_getElem (by omega))
  rw [g0.1, g0.2, hc1] at f0
  rw [g1.1, g1.2, hc2] at f1
  obtain ⟨k, hk, -, hw⟩ := DataW.trod_int hi (show DataW.trod enc Tryd.prog w base spare held n 3 [c0] = some y0 from f0)
  obtain ⟨s, cls, h1, h2, h3, h4, h5⟩ := open_ints2 (k := .i64) (lo := -9223372036854775808) (hi := 9223372036854775807) Tryd.underlying22 Tryd.underlying51 hi hc1 hc3 rfl rfl n [c1] y1 f1
  refine ⟨k, s, cls, ?_, ?_, h3, h4, ?_⟩
  · injection hk with hk; injection h1 with h1; rw [hk, h1]
  · simp only [Lit.wf, Bool.and_eq_true, decide_eq_true_eq] at hw; exact hw
  · rw [hx]
    simp only [List.map_cons, List.map_nil, Rows.uptoBulk, Rows.uptoBulkAll]
    omega
end Go.Proofs.YtnmkdhoijdoccaaDoor
