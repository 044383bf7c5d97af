/- The law TseitinFresh returns true, and its arguments read behind the call as before, whatever the input. Condition: what it reads is of bulk at most 1048576. -/
import Derived.Test.YtjeopmiopinlgaaRw
import Derived.Test.YtjeopmiopinlgaaProg
import Derived.Test.YtjeopmiopinlgaaRows
import Derived.WalkKit
import Derived.ProofKit
import Derived.OpenShut
import Derived.JoinedCond
import Derived.Carry
import Derived.Deep.Slices
import Derived.Test.YtjeopmiopinlgaaTsT
import Derived.Test.YtjeopmiopinlgaaTsFr
/- Rows: arguments opened as readable rows; a law that answers true and leaves everything as it was. -/
set_option linter.unusedVariables false
set_option linter.unusedSimpArgs false
namespace Go.Proofs.Ytjeopmiopinlgaa
open Go Go.RowKit Go.ChangeShapes Go.WideShapes Go.ChangeAt SL

theorem own : ownKnob Try.prog.godebug = none := by kernel_rfl
theorem laidOut : laidOutB Try.prog = true := by kernel_rfl

theorem bulk_one {H : Type} (d : DataW H) : 1 ≤ Rows.uptoBulk d := by
  cases d with
  | lit l => cases l <;> simp [Rows.uptoBulk]
  | nil => simp [Rows.uptoBulk]
  | ptr d => simp [Rows.uptoBulk]
  | slice elems spare => simp [Rows.uptoBulk]
  | agg parts => simp [Rows.uptoBulk]
  | iface t d => simp [Rows.uptoBulk]
  | map entries => simp [Rows.uptoBulk]
  | held h => simp [Rows.uptoBulk]
theorem bulk_len {H : Type} (l : List (DataW H)) : l.length ≤ Rows.uptoBulkAll l := by
  induction l with
  | nil => simp
  | cons x r ih => have := bulk_one x; simp only [Rows.uptoBulkAll, List.length_cons]; omega
theorem bulk_slice {H : Type} (es sp : List (DataW H)) : es.length ≤ Rows.uptoBulk (.slice es sp) := by
  have := bulk_len es
  simp only [Rows.uptoBulk]; omega
theorem bulk_part {H : Type} {d : DataW H} {l : List (DataW H)} (h : d ∈ l) : Rows.uptoBulk d ≤ Rows.uptoBulkAll l := by
  induction l with
  | nil => cases h
  | cons x r ih =>
    simp only [Rows.uptoBulkAll]
    rcases List.mem_cons.1 h with e | e
    · subst e; omega
    · have := ih e; omega
theorem small_part {H : Type} {d : DataW H} {l : List (DataW H)} (hk : Rows.uptoSmall H l = true) (h : d ∈ l) : Rows.uptoBulk d ≤ 1048576 := by
  have h1 : Rows.uptoBulkAll l ≤ 1048576 := of_decide_eq_true hk
  have := bulk_part h
  omega

section
variable {H : Type} {enc : TypeId × Value → H} {P : Program} {w : World} {base : Nat} {spare : Nat → Bool} {held : Bool}

/-- A SLICE, OPENED: a row that can be read. -/
theorem open_rd {α : Type} [Inhabited α] (d : Cd α) (Q : α → Prop) {t e : TypeId} {r : Reach} {b0 : Nat} (ht : P.underlying t = some (.slice e)) (hC : P.cellsOf e = d.sz)
    (hel : ∀ (fuel : Nat) (cs : List Value) (x : DataW H × List MemPlace), DataW.trod enc P w base spare held fuel e cs = some x → cs.length = d.sz → ∃ a : α, cs = d.enc a ∧ Q a)
    {v : Value} {dd : DataW H} {ps : List MemPlace} (hv : Value.okWide P w r b0 t v) (h : DataW.Trod enc P w base spare held t v dd ps) :
    ∃ xs : List α, Rd d v xs w ∧ (∀ x ∈ xs, Q x) ∧ xs.length ≤ Rows.uptoBulk dd := by
  obtain ⟨a0, len0, cap0, rfl⟩ := okWide_slice ht hv
  obtain ⟨fuel, hf⟩ := h
  rcases Go.Deep.open_slice ht hf with ⟨hc, hx⟩ | ⟨a, len, cap, m, n, D, Pl, hc, hb, hl, hm, hmm, hx, hi⟩
  · simp [Value.cells] at hc
    obtain ⟨rfl, rfl, rfl⟩ := hc
    refine ⟨[], ⟨none, 0, rfl, Nat.zero_le _, fun i x hx => by simp at hx⟩, fun x hx => (by cases hx), Nat.zero_le _⟩
  · simp [Value.cells] at hc
    obtain ⟨rfl, rfl, rfl⟩ := hc
    have hlm : len0 ≤ m := by rw [hmm]; split <;> omega
    have key : ∀ i, ∃ x : α, i < len0 → Q x ∧ ∀ j u, (d.enc x)[j]? = some u → w.cell? (a.add (i * d.sz + j)) = some u := by
      intro i
      by_cases hil : i < len0
      · obtain ⟨cs', hcs, htr⟩ := hi i (by omega)
        obtain ⟨-, hlen, hat⟩ := World.cells?_some hcs
        obtain ⟨x, hxe, hq⟩ := hel _ _ _ htr (by rw [hlen, hC])
        refine ⟨x, fun _ => ⟨hq, fun j u hu => ?_⟩⟩
        have hj : j < d.sz := by
          have := (List.getElem?_eq_some_iff.1 hu).1
          rw [← hxe, hlen, hC] at this; exact this
        have h1 := hat j (by rw [hC]; exact hj)
        rw [Go.Deep.add_add, hC] at h1
        rw [h1, hxe]; exact hu
      · exact ⟨default, fun h => absurd h hil⟩
    have hf : ∃ f : Nat → α, ∀ i, i < len0 → Q (f i) ∧ ∀ j u, (d.enc (f i))[j]? = some u → w.cell? (a.add (i * d.sz + j)) = some u := ⟨fun i => (key i).choose, fun i => (key i).choose_spec⟩
    obtain ⟨f, hf⟩ := hf
    refine ⟨(List.range len0).map f, ⟨some a, cap0, by simp, by simp; exact Nat.le_trans hl hm, fun i x hx => ?_⟩, fun x hx => ?_, ?_⟩
    · rw [List.getElem?_map] at hx
      have hil : i < len0 := by
        by_cases hil : i < len0
        · exact hil
        · rw [List.getElem?_eq_none (by simp; omega)] at hx; simp at hx
      rw [List.getElem?_range hil] at hx
      simp at hx; subst hx
      exact ⟨a, rfl, (hf i hil).2⟩
    · obtain ⟨i, hi, rfl⟩ := List.mem_map.1 hx
      exact (hf i (by simpa using hi)).1
    · simp only [Prod.mk.injEq] at hx
      rw [hx.1, List.length_map, List.length_range]
      have := bulk_slice ((List.range len0).map D) ((List.range (m - len0)).map fun j => D (len0 + j))
      simpa using this

theorem el_nat {e : TypeId} {k : IntKind} {hi : Nat} (he : P.underlying e = some (.int k)) (hmin : k.min = 0) (hmax : k.max = (hi : Nat)) (fuel : Nat) (cs : List Value) (x : DataW H × List MemPlace)
    (h : DataW.trod enc P w base spare held fuel e cs = some x) (_ : cs.length = (cNat k).sz) : ∃ a : Nat, cs = (cNat k).enc a ∧ a < hi + 1 := by
  obtain ⟨n, rfl, -, hw⟩ := DataW.trod_int he h
  simp only [Lit.wf, Bool.and_eq_true, decide_eq_true_eq, hmin, hmax] at hw
  refine ⟨n.toNat, ?_, by omega⟩
  show [Value.int k n] = [Value.int k (n.toNat : Nat)]
  rw [Int.toNat_of_nonneg hw.1]
theorem el_bool {e : TypeId} (he : P.underlying e = some .bool) (fuel : Nat) (cs : List Value) (x : DataW H × List MemPlace)
    (h : DataW.trod enc P w base spare held fuel e cs = some x) (_ : cs.length = cBool.sz) : ∃ a : Bool, cs = cBool.enc a ∧ True := by
  obtain ⟨b, rfl, -⟩ := DataW.trod_bool he h
  exact ⟨b, rfl, trivial⟩

/-- Behind the call every argument reads as it did. -/
theorem carryAll {W W' : World} (hP : laidOutB P = true) (hb : Below W.heap.size W W') : ∀ {ts : List TypeId} {vs : List Value} {ds : List (DataW H)} {ps : List MemPlace}, (∀ t ∈ ts, P.readableRec t = true ∧ t < P.types.size) →
    DataW.TrodAll enc P W 0 (fun _ => true) true ts vs ds ps → (∀ x ∈ ps, x.block < W.heap.size) → DataW.TrodAll enc P W' 0 (fun b => decide (b < W.heap.size)) true ts vs ds ps := by
  intro ts
  induction ts with
  | nil => intro vs ds ps _ h _; obtain ⟨rfl, rfl, rfl⟩ := trodAll_nil h; exact trodAll_mk0
  | cons t ts ih =>
    intro vs ds ps hr h hlt
    obtain ⟨v, vs', d, ds', p, q, rfl, rfl, rfl, h0, hr0⟩ := trodAll_cons h
    exact trodAll_cons_mk (Below.trod hP (hr t List.mem_cons_self).1 (hr t List.mem_cons_self).2 h0 hb (fun x hx => hlt x (List.mem_append.2 (.inl hx))))
      (ih (fun t ht => hr t (List.mem_cons_of_mem _ ht)) hr0 (fun x hx => hlt x (List.mem_append.2 (.inr hx))))

theorem post_true {f : Func} {s : ChangeSpec} {W W' : World} {args : Array Value} {ds gs : List (DataW H)} {before : List MemPlace} {tb : TypeId} (hP : laidOutB P = true) (hW : DataW.Whole enc P f.params.toList s.vars false W args.toList ds gs before) (hb : Below W.heap.size W W')
    (hv : s.vars = []) (hr : ∀ t ∈ f.params.toList, P.readableRec t = true ∧ t < P.types.size) (hres : f.resultTypes = #[tb]) (htb : P.underlying tb = some .bool)
    (h1 : (s.fn H (ds ++ gs)).results = [.lit (.bool true)]) (h2 : (s.fn H (ds ++ gs)).args = ds) (h3 : (s.fn H (ds ++ gs)).vars = []) :
    s.post enc P f false true false false W args (.bool true) W' := by
  have hW' := hW
  obtain ⟨p, q, hA, hV, rfl, hz, -⟩ := hW
  have hVk := hV
  rw [hv] at hV
  obtain ⟨rfl, rfl⟩ := trodVars_none hV
  refine ⟨ds, [], p ++ [], [], p, [], hW', ?_, ?_, ?_, hb.frame _, fun h => by cases h⟩
  · rw [h1, hres]; exact trodAll_mk1 (shut_bool htb true)
  · rw [h2]; exact carryAll hP hb hr hA (fun x hx => by simpa using hW'.lt x (List.mem_append.2 (.inl hx)))
  · rw [h3, hv]; rfl
end
end Go.Proofs.Ytjeopmiopinlgaa
/- Rows: scripts and numbers opened, with their bulk. -/
set_option linter.unusedVariables false
set_option linter.unusedSimpArgs false
namespace Go.Proofs.Ytjeopmiopinlgaa
open Go Go.RowKit Go.ChangeShapes Go.WideShapes Go.ChangeAt SL

theorem bulk_lenm {H : Type} (m0 : Nat) (l : List (DataW H)) (h : ∀ x ∈ l, m0 ≤ Rows.uptoBulk x) : m0 * l.length ≤ Rows.uptoBulkAll l := by
  induction l with
  | nil => simp [Rows.uptoBulkAll]
  | cons x r ih =>
    have h1 := h x List.mem_cons_self
    have h2 := ih fun y hy => h y (List.mem_cons_of_mem _ hy)
    simp only [Rows.uptoBulkAll, List.length_cons, Nat.mul_succ]; omega

section
variable {H : Type} {enc : TypeId × Value → H} {P : Program} {w : World} {base : Nat} {spare : Nat → Bool} {held : Bool}

/-- A SLICE, OPENED: a row that can be read. -/
theorem open_rdb (m0 : Nat) {α : Type} [Inhabited α] (d : Cd α) (Q : α → Prop) {t e : TypeId} {r : Reach} {b0 : Nat} (ht : P.underlying t = some (.slice e)) (hC : P.cellsOf e = d.sz)
    (hel : ∀ (fuel : Nat) (cs : List Value) (x : DataW H × List MemPlace), DataW.trod enc P w base spare held fuel e cs = some x → cs.length = d.sz → ∃ a : α, cs = d.enc a ∧ Q a ∧ m0 ≤ Rows.uptoBulk x.1)
    {v : Value} {dd : DataW H} {ps : List MemPlace} (hv : Value.okWide P w r b0 t v) (h : DataW.Trod enc P w base spare held t v dd ps) :
    ∃ xs : List α, Rd d v xs w ∧ (∀ x ∈ xs, Q x) ∧ m0 * xs.length ≤ Rows.uptoBulk dd := by
  obtain ⟨a0, len0, cap0, rfl⟩ := okWide_slice ht hv
  obtain ⟨fuel, hf⟩ := h
  rcases Go.Deep.open_slice ht hf with ⟨hc, hx⟩ | ⟨a, len, cap, m, n, D, Pl, hc, hb, hl, hm, hmm, hx, hi⟩
  · simp [Value.cells] at hc
    obtain ⟨rfl, rfl, rfl⟩ := hc
    refine ⟨[], ⟨none, 0, rfl, Nat.zero_le _, fun i x hx => by simp at hx⟩, fun x hx => (by cases hx), Nat.zero_le _⟩
  · simp [Value.cells] at hc
    obtain ⟨rfl, rfl, rfl⟩ := hc
    have hlm : len0 ≤ m := by rw [hmm]; split <;> omega
    have key : ∀ i, ∃ x : α, i < len0 → (Q x ∧ m0 ≤ Rows.uptoBulk (D i)) ∧ ∀ j u, (d.enc x)[j]? = some u → w.cell? (a.add (i * d.sz + j)) = some u := by
      intro i
      by_cases hil : i < len0
      · obtain ⟨cs', hcs, htr⟩ := hi i (by omega)
        obtain ⟨-, hlen, hat⟩ := World.cells?_some hcs
        obtain ⟨x, hxe, hq, hbk⟩ := hel _ _ _ htr (by rw [hlen, hC])
        refine ⟨x, fun _ => ⟨⟨hq, hbk⟩, fun j u hu => ?_⟩⟩
        have hj : j < d.sz := by
          have := (List.getElem?_eq_some_iff.1 hu).1
          rw [← hxe, hlen, hC] at this; exact this
        have h1 := hat j (by rw [hC]; exact hj)
        rw [Go.Deep.add_add, hC] at h1
        rw [h1, hxe]; exact hu
      · exact ⟨default, fun h => absurd h hil⟩
    have hf : ∃ f : Nat → α, ∀ i, i < len0 → (Q (f i) ∧ m0 ≤ Rows.uptoBulk (D i)) ∧ ∀ j u, (d.enc (f i))[j]? = some u → w.cell? (a.add (i * d.sz + j)) = some u := ⟨fun i => (key i).choose, fun i => (key i).choose_spec⟩
    obtain ⟨f, hf⟩ := hf
    refine ⟨(List.range len0).map f, ⟨some a, cap0, by simp, by simp; exact Nat.le_trans hl hm, fun i x hx => ?_⟩, fun x hx => ?_, ?_⟩
    · rw [List.getElem?_map] at hx
      have hil : i < len0 := by
        by_cases hil : i < len0
        · exact hil
        · rw [List.getElem?_eq_none (by simp; omega)] at hx; simp at hx
      rw [List.getElem?_range hil] at hx
      simp at hx; subst hx
      exact ⟨a, rfl, (hf i hil).2⟩
    · obtain ⟨i, hi, rfl⟩ := List.mem_map.1 hx
      exact (hf i (by simpa using hi)).1.1
    · simp only [Prod.mk.injEq] at hx
      rw [hx.1, List.length_map, List.length_range]
      have h1 := bulk_lenm m0 ((List.range len0).map D) (fun x hx => by
        obtain ⟨i, hi, rfl⟩ := List.mem_map.1 hx
        exact (hf i (by simpa using hi)).1.2)
      simp only [Rows.uptoBulk, List.length_map, List.length_range] at h1 ⊢
      omega


theorem el_intb {e : TypeId} {k : IntKind} {lo hi : Int} (he : P.underlying e = some (.int k)) (hmin : k.min = lo) (hmax : k.max = hi) (fuel : Nat) (cs : List Value) (x : DataW H × List MemPlace)
    (h : DataW.trod enc P w base spare held fuel e cs = some x) (_ : cs.length = (cInt k).sz) : ∃ a : Int, cs = (cInt k).enc a ∧ (lo ≤ a ∧ a ≤ hi) ∧ 1 ≤ Rows.uptoBulk x.1 := by
  obtain ⟨n, rfl, -, hw⟩ := DataW.trod_int he h
  simp only [Lit.wf, Bool.and_eq_true, decide_eq_true_eq, hmin, hmax] at hw
  exact ⟨n, rfl, hw, bulk_one _⟩
theorem el_natb {e : TypeId} {k : IntKind} {hi : Nat} (he : P.underlying e = some (.int k)) (hmin : k.min = 0) (hmax : k.max = (hi : Nat)) (fuel : Nat) (cs : List Value) (x : DataW H × List MemPlace)
    (h : DataW.trod enc P w base spare held fuel e cs = some x) (hc : cs.length = (cNat k).sz) : ∃ a : Nat, cs = (cNat k).enc a ∧ a < hi + 1 ∧ 1 ≤ Rows.uptoBulk x.1 := by
  obtain ⟨a, h1, h2⟩ := el_nat he hmin hmax fuel cs x h hc
  exact ⟨a, h1, h2, bulk_one _⟩
theorem el_boolb {e : TypeId} (he : P.underlying e = some .bool) (fuel : Nat) (cs : List Value) (x : DataW H × List MemPlace)
    (h : DataW.trod enc P w base spare held fuel e cs = some x) (hc : cs.length = cBool.sz) : ∃ a : Bool, cs = cBool.enc a ∧ True ∧ 1 ≤ Rows.uptoBulk x.1 := by
  obtain ⟨a, h1, h2⟩ := el_bool he fuel cs x h hc
  exact ⟨a, h1, h2, bulk_one _⟩
end
set_option maxRecDepth 100000 in
theorem el_made3 {H : Type} {enc : TypeId × Value → H} {w : World} {base : Nat} {spare : Nat → Bool} {held : Bool} (fuel : Nat) (cs : List Value) (x : DataW H × List MemPlace)
    (h : DataW.trod enc Try.prog w base spare held fuel 77 cs = some x) (hl : cs.length = cMade3.sz) : ∃ a : Mk3, cs = cMade3.enc a ∧ MkIn3 a ∧ 4 ≤ Rows.uptoBulk x.1 := by
  have hst : ∃ fs : Array Field, Try.prog.underlying 77 = some (.struct fs) ∧ fs.map (fun f => (f.offset, f.type)) = #[(0, 3), (1, 3), (2, 3)] := ⟨_, Try.underlying77, by kernel_rfl⟩
  obtain ⟨fs, hu, hfs⟩ := hst
  have hi : Try.prog.underlying 3 = some (.int .i64) := Try.underlying3
  have hc1 : Try.prog.cellsOf 3 = 1 := by kernel_rfl
  obtain ⟨ys, n, -, hx, -, hyl, hf⟩ := DataW.trod_struct hu h
  have hlen : fs.size = 3 := by have := congrArg Array.size hfs; simpa using this
  have hbk : 4 ≤ Rows.uptoBulk x.1 := by
    rw [hx]
    have := bulk_len (ys.map (·.1))
    rw [List.length_map, hyl, hlen] at this
    simp only [Rows.uptoBulk]; omega
  have one : ∀ i, i < 3 → ∃ k : Int, cs[i]? = some (.int .i64 k) ∧ In64' k := by
    intro i hi4
    have hget : fs[i]? = some (fs[i]'(by omega)) := Array.getElem?_eq_getElem _
    have h2 : (fs.map (fun f => (f.offset, f.type)))[i]? = some ((fs[i]'(by omega)).offset, (fs[i]'(by omega)).type) := by rw [Array.getElem?_map, hget]; rfl
    rw [hfs] at h2
    have h3 := hf i _ hget
    have h4 : ((fs[i]'(by omega)).offset, (fs[i]'(by omega)).type) = (i, 3) := by
      have : i = 0 ∨ i = 1 ∨ i = 2 := by omega
      rcases this with rfl | rfl | rfl <;> simpa using h2.symm
    simp only [Prod.mk.injEq] at h4
    rw [h4.1, h4.2, hc1] at h3
    have hy : ys[i]? = some (ys[i]'(by omega)) := List.getElem?_eq_getElem _
    rw [hy] at h3
    obtain ⟨k, hk, -, hw⟩ := DataW.trod_int hi h3
    have hcl : cs.length = 3 := hl
    have hd : (cs.drop i).take 1 = [cs[i]'(by omega)] := by
      rw [List.drop_eq_getElem_cons (by omega)]; rfl
    rw [hd] at hk
    refine ⟨k, ?_, ?_⟩
    · rw [List.getElem?_eq_getElem (by omega)]
      injection hk with hk1
      rw [hk1]
    · simp only [Lit.wf, Bool.and_eq_true, decide_eq_true_eq] at hw
      exact hw
  obtain ⟨k0, e0, q0⟩ := one 0 (by decide)
  obtain ⟨k1, e1, q1⟩ := one 1 (by decide)
  obtain ⟨k2, e2, q2⟩ := one 2 (by decide)
  have hcl : cs.length = 3 := hl
  obtain ⟨c0, c1, c2, rfl⟩ : ∃ a b c, cs = [a, b, c] := by
    match cs, hcl with
    | [a, b, c], _ => exact ⟨a, b, c, rfl⟩
  have h0 : c0 = .int .i64 k0 := by injection e0
  have h1 : c1 = .int .i64 k1 := by injection e1
  have h2 : c2 = .int .i64 k2 := by injection e2
  subst h0 h1 h2
  exact ⟨(k0, k1, k2), rfl, ⟨q0, q1, q2⟩, hbk⟩

/-- What is read in the world before is read in all that keep it. -/
theorem ent_old {α : Type} {d : Cd α} {v : Value} {xs : List α} {W : World} {l : List HP} (h : Rd d v xs W) : Ent (Old W :: l) (Rd d v xs) :=
  Ent.old fun w hk => h.mono fun a u ha => by
    have hb : ∃ o, W.heap[a.block]? = some o := by
      cases ho : W.heap[a.block]? with
      | none => rw [World.cell?, ho] at ha; cases ha
      | some o => exact ⟨o, rfl⟩
    obtain ⟨o, ho⟩ := hb
    have := hk _ _ ho
    unfold World.cell? at ha ⊢
    rw [this, ← ho]; exact ha
end Go.Proofs.Ytjeopmiopinlgaa
set_option linter.unusedVariables false
set_option linter.unusedSimpArgs false
namespace Go.Proofs.Ytjeopmiopinlgaa
open Go Go.RowKit Go.ChangeShapes Go.WideShapes Go.ChangeAt SL

namespace tseitinFresh
set_option maxRecDepth 100000 in
theorem contract (H : Type) (enc : TypeId × Value → H) (W : World) (base : Nat) (args : Array Value) (ds gs : List (DataW H)) (before : List MemPlace)
    (hval : ∀ (j : Nat) t v, Try.f6.params[j]? = some t → args[j]? = some v → Value.okWide Try.prog W .any base t v)
    (hW : DataW.Whole enc Try.prog Try.f6.params.toList Rows.tseitinFreshSpec.vars false W args.toList ds gs before) (hk : Rows.uptoSmall H (ds ++ gs) = true) :
    Calls Try.prog 6 args W fun e W' => ∃ v, e = .returned v ∧ Rows.tseitinFreshSpec.post enc Try.prog Try.f6 false true false false W args v W' := by
  have hW' := hW
  obtain ⟨p, q, hA0, hV, rfl, hfz, hnd⟩ := hW
  have hA : DataW.TrodAll enc Try.prog W 0 (fun _ => true) true Try.f6.params.toList args.toList ds p := hA0
  rw [Try.params6] at hA hval
  obtain ⟨v0, vs0, d0, ds0, p0, q0, hargs, rfl, rfl, h0, r0⟩ := trodAll_cons hA
  obtain ⟨v1, vs1, d1, ds1, p1, q1, rfl, rfl, rfl, h1, r1⟩ := trodAll_cons r0
  obtain ⟨rfl, rfl, rfl⟩ := trodAll_nil r1
  obtain rfl : args = #[v0, v1] := by cases args; simp_all
  obtain ⟨rfl, rfl⟩ := trodVars_none hV
  clear hA0
  obtain ⟨xs0, hr0, hq0, hl0⟩ := open_rdb 4 cMade3 MkIn3 Try.underlying22 (by kernel_rfl) el_made3 (hval 0 _ v0 rfl rfl) h0
  obtain ⟨xs1, hr1, hq1, hl1⟩ := open_rdb 1 (cInt .i64) In64' Try.underlying23 (by kernel_rfl) (el_intb (lo := -9223372036854775808) (hi := 9223372036854775807) Try.underlying3 rfl rfl) (hval 1 _ v1 rfl rfl) h1
  have hb : Rows.uptoBulkAll ([d0, d1] ++ []) ≤ 1048576 := of_decide_eq_true hk
  simp only [List.cons_append, List.nil_append, Rows.uptoBulkAll] at hb
  refine (tfresh_walk W v0 v1 xs0 xs1 (ent_old hr0) hq0 (ent_old hr1) hq1 (by omega)).mono ?_
  rintro e W' ⟨rfl, hst⟩
  exact ⟨_, rfl, post_true laidOut hW' hst.old rfl (by decide +kernel) (by kernel_rfl) Try.underlying4 rfl rfl rfl⟩

set_option maxRecDepth 100000 in
theorem lifted (os : Os) (started : os.Started) (H : Type) (enc : TypeId × Value → H) (F : Stop.Interp) :
    ReturnsInHanded {} Try.checked os 6 .any ((Rows.OpenSpec.upto Rows.tseitinFreshSpec).pre6 enc Try.prog Try.f6 Rows.tseitinFreshUptoRow.domain false) (((Rows.OpenSpec.upto Rows.tseitinFreshSpec).at F).post enc Try.prog Try.f6 false true false false) := by
  refine returnsInHanded_of_cond (C := Try.checked) (s := Rows.OpenSpec.upto Rows.tseitinFreshSpec) (k := Rows.uptoSmall) rfl own started (by kernel_rfl) Try.func6
    (OpenSpec.witness (enc := enc) (C := Try.checked) (s := Rows.OpenSpec.upto Rows.tseitinFreshSpec) (k := Rows.uptoSmall) rfl false ⟨#[], #[.slice none 0 0, .slice none 0 0], []⟩ 8 (by kernel_rfl) (by kernel_rfl) (by kernel_rfl)
      (x := ([.nil, .nil], [], [])) (by kernel_rfl) rfl (by kernel_rfl)) ?_
  intro W base args ds gs before hval hW _ hk _
  exact contract H enc W base args ds gs before hval hW hk

theorem proved : Rows.TseitinFreshUptoSaid :=
  OpenClaim.holds_of_cond 6 Try.f6 rfl rfl rfl rfl rfl rfl rfl ⟨rfl, rfl, rfl, rfl, rfl⟩ rfl rfl rfl rfl rfl (by kernel_rfl) Try.func6 (by kernel_rfl)
    (of_decide_eq_true (by kernel_rfl)) (by unfold Func.isWrapper; first | (rw [if_pos (by decide +kernel)]; kernel_rfl) | (rw [if_neg (by decide +kernel)]; exact ⟨rfl, rfl⟩))
    (fun os started H enc _ F => lifted os started H enc F)
end tseitinFresh
end Go.Proofs.Ytjeopmiopinlgaa
