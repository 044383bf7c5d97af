/- Rows: arguments opened as readable rows; a law that answers true and leaves everything as it was. -/
import Derived.Test.YtnmkdhoijdoccaaDoorRw
import Derived.Test.YtnmkdhoijdoccaaDoorProg
import Derived.Test.YtnmkdhoijdoccaaDoorRows
import Derived.WalkKit
import Derived.ProofKit
import Derived.OpenShut
import Derived.JoinedCond
import Derived.Carry
import Derived.Deep.Slices
set_option linter.unusedVariables false
set_option linter.unusedSimpArgs false
namespace Go.Proofs.YtnmkdhoijdoccaaDoor
open Go Go.RowKit Go.ChangeShapes Go.WideShapes Go.ChangeAt SL

theorem own : ownKnob Tryd.prog.godebug = none := by kernel_rfl
theorem laidOut : laidOutB Tryd.prog = true := by kernel_rfl

theorem bulk_one {H : Type} (d : DataW H) : 1 ≤ Rows.uptoBulk d := by
  cases d with
  | lit l => cases l <;> simp [Rows.uptoBulk]
  | nil => simp [Rows.uptoBulk]
  | ptr d => simp [Rows.uptoBulk]
  | slice elems spare => simp [Rows.uptoBulk]
  | agg parts => simp [Rows.uptoBulk]
  | iface t d => simp [Rows.uptoBulk]
  | map entries => simp [Rows.uptoBulk]
  | held h => simp [Rows.uptoBulk]
theorem bulk_len {H : Type} (l : List (DataW H)) : l.length ≤ Rows.uptoBulkAll l := by
  induction l with
  | nil => simp
  | cons x r ih => have := bulk_one x; simp only [Rows.uptoBulkAll, List.length_cons]; omega
theorem bulk_slice {H : Type} (es sp : List (DataW H)) : es.length ≤ Rows.uptoBulk (.slice es sp) := by
  have := bulk_len es
  simp only [Rows.uptoBulk]; omega
theorem bulk_part {H : Type} {d : DataW H} {l : List (DataW H)} (h : d ∈ l) : Rows.uptoBulk d ≤ Rows.uptoBulkAll l := by
  induction l with
  | nil => cases h
  | cons x r ih =>
    simp only [Rows.uptoBulkAll]
    rcases List.mem_cons.1 h with e | e
    · subst e; omega
    · have := ih e; omega
theorem small_part {H : Type} {d : DataW H} {l : List (DataW H)} (hk : Rows.uptoSmall H l = true) (h : d ∈ l) : Rows.uptoBulk d ≤ 1048576 := by
  have h1 : Rows.uptoBulkAll l ≤ 1048576 := of_decide_eq_true hk
  have := bulk_part h
  omega

section
variable {H : Type} {enc : TypeId × Value → H} {P : Program} {w : World} {base : Nat} {spare : Nat → Bool} {held : Bool}

/-- A SLICE, OPENED: a row that can be read. -/
theorem open_rd {α : Type} [Inhabited α] (d : Cd α) (Q : α → Prop) {t e : TypeId} {r : Reach} {b0 : Nat} (ht : P.underlying t = some (.slice e)) (hC : P.cellsOf e = d.sz)
    (hel : ∀ (fuel : Nat) (cs : List Value) (x : DataW H × List MemPlace), DataW.trod enc P w base spare held fuel e cs = some x → cs.length = d.sz → ∃ a : α, cs = d.enc a ∧ Q a)
    {v : Value} {dd : DataW H} {ps : List MemPlace} (hv : Value.okWide P w r b0 t v) (h : DataW.Trod enc P w base spare held t v dd ps) :
    ∃ xs : List α, Rd d v xs w ∧ (∀ x ∈ xs, Q x) ∧ xs.length ≤ Rows.uptoBulk dd := by
  obtain ⟨a0, len0, cap0, rfl⟩ := okWide_slice ht hv
  obtain ⟨fuel, hf⟩ := h
  rcases Go.Deep.open_slice ht hf with ⟨hc, hx⟩ | ⟨a, len, cap, m, n, D, Pl, hc, hb, hl, hm, hmm, hx, hi⟩
  · simp [Value.cells] at hc
    obtain ⟨rfl, rfl, rfl⟩ := hc
    refine ⟨[], ⟨none, 0, rfl, Nat.zero_le _, fun i x hx => by simp at hx⟩, fun x hx => (by cases hx), Nat.zero_le _⟩
  · simp [Value.cells] at hc
    obtain ⟨rfl, rfl, rfl⟩ := hc
    have hlm : len0 ≤ m := by rw [hmm]; split <;> omega
    have key : ∀ i, ∃ x : α, i < len0 → Q x ∧ ∀ j u, (d.enc x)[j]? = some u → w.cell? (a.add (i * d.sz + j)) = some u := by
      intro i
      by_cases hil : i < len0
      · obtain ⟨cs', hcs, htr⟩ := hi i (by omega)
        obtain ⟨-, hlen, hat⟩ := World.cells?_some hcs
        obtain ⟨x, hxe, hq⟩ := hel _ _ _ htr (by rw [hlen, hC])
        refine ⟨x, fun _ => ⟨hq, fun j u hu => ?_⟩⟩
        have hj : j < d.sz := by
          have := (List.getElem?_eq_some_iff.1 hu).1
          rw [← hxe, hlen, hC] at this; exact this
        have h1 := hat j (by rw [hC]; exact hj)
        rw [Go.Deep.add_add, hC] at h1
        rw [h1, hxe]; exact hu
      · exact ⟨default, fun h => absurd h hil⟩
    have hf : ∃ f : Nat → α, ∀ i, i < len0 → Q (f i) ∧ ∀ j u, (d.enc (f i))[j]? = some u → w.cell? (a.add (i * d.sz + j)) = some u := ⟨fun i => (key i).choose, fun i => (key i).choose_spec⟩
    obtain ⟨f, hf⟩ := hf
    refine ⟨(List.range len0).map f, ⟨some a, cap0, by simp, by simp; exact Nat.le_trans hl hm, fun i x hx => ?_⟩, fun x hx => ?_, ?_⟩
    · rw [List.getElem?_map] at hx
      have hil : i < len0 := by
        by_cases hil : i < len0
        · exact hil
        · rw [List.getElem?_eq_none (by simp; omega)] at hx; simp at hx
      rw [List.getElem?_range hil] at hx
      simp at hx; subst hx
      exact ⟨a, rfl, (hf i hil).2⟩
    · obtain ⟨i, hi, rfl⟩ := List.mem_map.1 hx
      exact (hf i (by simpa using hi)).1
    · simp only [Prod.mk.injEq] at hx
      rw [hx.1, List.length_map, List.length_range]
      have := bulk_slice ((List.range len0).map D) ((List.range (m - len0)).map fun j => D (len0 + j))
      simpa using this

theorem el_nat {e : TypeId} {k : IntKind} {hi : Nat} (he : P.underlying e = some (.int k)) (hmin : k.min = 0) (hmax : k.max = (hi : Nat)) (fuel : Nat) (cs : List Value) (x : DataW H × List MemPlace)
    (h : DataW.trod enc P w base spare held fuel e cs = some x) (_ : cs.length = (cNat k).sz) : ∃ a : Nat, cs = (cNat k).enc a ∧ a < hi + 1 := by
  obtain ⟨n, rfl, -, hw⟩ := DataW.trod_int he h
  simp only [Lit.wf, Bool.and_eq_true, decide_eq_true_eq, hmin, hmax] at hw
  refine ⟨n.toNat, ?_, by omega⟩
  show [Value.int k n] = [Value.int k (n.toNat : Nat)]
  rw [Int.toNat_of_nonneg hw.1]
theorem el_bool {e : TypeId} (he : P.underlying e = some .bool) (fuel : Nat) (cs : List Value) (x : DataW H × List MemPlace)
    (h : DataW.trod enc P w base spare held fuel e cs = some x) (_ : cs.length = cBool.sz) : ∃ a : Bool, cs = cBool.enc a ∧ True := by
  obtain ⟨b, rfl, -⟩ := DataW.trod_bool he h
  exact ⟨b, rfl, trivial⟩

/-- Behind the call every argument reads as it did. -/
theorem carryAll {W W' : World} (hP : laidOutB P = true) (hb : Below W.heap.size W W') : ∀ {ts : List TypeId} {vs : List Value} {ds : List (DataW H)} {ps : List MemPlace}, (∀ t ∈ ts, P.readableRec t = true ∧ t < P.types.size) →
    DataW.TrodAll enc P W 0 (fun _ => true) true ts vs ds ps → (∀ x ∈ ps, x.block < W.heap.size) → DataW.TrodAll enc P W' 0 (fun b => decide (b < W.heap.size)) true ts vs ds ps := by
  intro ts
  induction ts with
  | nil => intro vs ds ps _ h _; obtain ⟨rfl, rfl, rfl⟩ := trodAll_nil h; exact trodAll_mk0
  | cons t ts ih =>
    intro vs ds ps hr h hlt
    obtain ⟨v, vs', d, ds', p, q, rfl, rfl, rfl, h0, hr0⟩ := trodAll_cons h
    exact trodAll_cons_mk (Below.trod hP (hr t List.mem_cons_self).1 (hr t List.mem_cons_self).2 h0 hb (fun x hx => hlt x (List.mem_append.2 (.inl hx))))
      (ih (fun t ht => hr t (List.mem_cons_of_mem _ ht)) hr0 (fun x hx => hlt x (List.mem_append.2 (.inr hx))))

theorem post_true {f : Func} {s : ChangeSpec} {W W' : World} {args : Array Value} {ds gs : List (DataW H)} {before : List MemPlace} {tb : TypeId} (hP : laidOutB P = true) (hW : DataW.Whole enc P f.params.toList s.vars false W args.toList ds gs before) (hb : Below W.heap.size W W')
    (hv : s.vars = []) (hr : ∀ t ∈ f.params.toList, P.readableRec t = true ∧ t < P.types.size) (hres : f.resultTypes = #[tb]) (htb : P.underlying tb = some .bool)
    (h1 : (s.fn H (ds ++ gs)).results = [.lit (.bool true)]) (h2 : (s.fn H (ds ++ gs)).args = ds) (h3 : (s.fn H (ds ++ gs)).vars = []) :
    s.post enc P f false true false false W args (.bool true) W' := by
  have hW' := hW
  obtain ⟨p, q, hA, hV, rfl, hz, -⟩ := hW
  have hVk := hV
  rw [hv] at hV
  obtain ⟨rfl, rfl⟩ := trodVars_none hV
  refine ⟨ds, [], p ++ [], [], p, [], hW', ?_, ?_, ?_, hb.frame _, fun h => by cases h⟩
  · rw [h1, hres]; exact trodAll_mk1 (shut_bool htb true)
  · rw [h2]; exact carryAll hP hb hr hA (fun x hx => by simpa using hW'.lt x (List.mem_append.2 (.inl hx)))
  · rw [h3, hv]; rfl
end
end Go.Proofs.YtnmkdhoijdoccaaDoor
