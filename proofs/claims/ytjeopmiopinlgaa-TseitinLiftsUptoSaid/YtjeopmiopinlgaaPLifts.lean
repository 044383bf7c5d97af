/- The law TseitinLifts returns true, and its arguments read behind the call as before, whatever the input. Condition: what it reads is of bulk at most 1048576. -/
import Derived.Test.YtjeopmiopinlgaaRowK
import Derived.Test.YtjeopmiopinlgaaTsT
import Derived.Test.YtjeopmiopinlgaaTsLi
/- Rows: scripts and numbers opened, with their bulk. -/
set_option linter.unusedVariables false
set_option linter.unusedSimpArgs false
namespace Go.Proofs.Ytjeopmiopinlgaa
open Go Go.RowKit Go.ChangeShapes Go.WideShapes Go.ChangeAt SL

theorem bulk_lenm {H : Type} (m0 : Nat) (l : List (DataW H)) (h : ∀ x ∈ l, m0 ≤ Rows.uptoBulk x) : m0 * l.length ≤ Rows.uptoBulkAll l := by
  induction l with
  | nil => simp [Rows.uptoBulkAll]
  | cons x r ih =>
    have h1 := h x List.mem_cons_self
    have h2 := ih fun y hy => h y (List.mem_cons_of_mem _ hy)
    simp only [Rows.uptoBulkAll, List.length_cons, Nat.mul_succ]; omega

section
variable {H : Type} {enc : TypeId × Value → H} {P : Program} {w : World} {base : Nat} {spare : Nat → Bool} {held : Bool}

/-- A SLICE, OPENED: a row that can be read. -/
theorem open_rdb (m0 : Nat) {α : Type} [Inhabited α] (d : Cd α) (Q : α → Prop) {t e : TypeId} {r : Reach} {b0 : Nat} (ht : P.underlying t = some (.slice e)) (hC : P.cellsOf e = d.sz)
    (hel : ∀ (fuel : Nat) (cs : List Value) (x : DataW H × List MemPlace), DataW.trod enc P w base spare held fuel e cs = some x → cs.length = d.sz → ∃ a : α, cs = d.enc a ∧ Q a ∧ m0 ≤ Rows.uptoBulk x.1)
    {v : Value} {dd : DataW H} {ps : List MemPlace} (hv : Value.okWide P w r b0 t v) (h : DataW.Trod enc P w base spare held t v dd ps) :
    ∃ xs : List α, Rd d v xs w ∧ (∀ x ∈ xs, Q x) ∧ m0 * xs.length ≤ Rows.uptoBulk dd := by
  obtain ⟨a0, len0, cap0, rfl⟩ := okWide_slice ht hv
  obtain ⟨fuel, hf⟩ := h
  rcases Go.Deep.open_slice ht hf with ⟨hc, hx⟩ | ⟨a, len, cap, m, n, D, Pl, hc, hb, hl, hm, hmm, hx, hi⟩
  · simp [Value.cells] at hc
    obtain ⟨rfl, rfl, rfl⟩ := hc
    refine ⟨[], ⟨none, 0, rfl, Nat.zero_le _, fun i x hx => by simp at hx⟩, fun x hx => (by cases hx), Nat.zero_le _⟩
  · simp [Value.cells] at hc
    obtain ⟨rfl, rfl, rfl⟩ := hc
    have hlm : len0 ≤ m := by rw [hmm]; split <;> omega
    have key : ∀ i, ∃ x : α, i < len0 → (Q x ∧ m0 ≤ Rows.uptoBulk (D i)) ∧ ∀ j u, (d.enc x)[j]? = some u → w.cell? (a.add (i * d.sz + j)) = some u := by
      intro i
      by_cases hil : i < len0
      · obtain ⟨cs', hcs, htr⟩ := hi i (by omega)
        obtain ⟨-, hlen, hat⟩ := World.cells?_some hcs
        obtain ⟨x, hxe, hq, hbk⟩ := hel _ _ _ htr (by rw [hlen, hC])
        refine ⟨x, fun _ => ⟨⟨hq, hbk⟩, fun j u hu => ?_⟩⟩
        have hj : j < d.sz := by
          have := (List.getElem?_eq_some_iff.1 hu).1
          rw [← hxe, hlen, hC] at this; exact this
        have h1 := hat j (by rw [hC]; exact hj)
        rw [Go.Deep.add_add, hC] at h1
        rw [h1, hxe]; exact hu
      · exact ⟨default, fun h => absurd h hil⟩
    have hf : ∃ f : Nat → α, ∀ i, i < len0 → (Q (f i) ∧ m0 ≤ Rows.uptoBulk (D i)) ∧ ∀ j u, (d.enc (f i))[j]? = some u → w.cell? (a.add (i * d.sz + j)) = some u := ⟨fun i => (key i).choose, fun i => (key i).choose_spec⟩
    obtain ⟨f, hf⟩ := hf
    refine ⟨(List.range len0).map f, ⟨some a, cap0, by simp, by simp; exact Nat.le_trans hl hm, fun i x hx => ?_⟩, fun x hx => ?_, ?_⟩
    · rw [List.getElem?_map] at hx
      have hil : i < len0 := by
        by_cases hil : i < len0
        · exact hil
        · rw [List.getElem?_eq_none (by simp; omega)] at hx; simp at hx
      rw [List.getElem?_range hil] at hx
      simp at hx; subst hx
      exact ⟨a, rfl, (hf i hil).2⟩
    · obtain ⟨i, hi, rfl⟩ := List.mem_map.1 hx
      exact (hf i (by simpa using hi)).1.1
    · simp only [Prod.mk.injEq] at hx
      rw [hx.1, List.length_map, List.length_range]
      have h1 := bulk_lenm m0 ((List.range len0).map D) (fun x hx => by
        obtain ⟨i, hi, rfl⟩ := List.mem_map.1 hx
        exact (hf i (by simpa using hi)).1.2)
      simp only [Rows.uptoBulk, List.length_map, List.length_range] at h1 ⊢
      omega


theorem el_intb {e : TypeId} {k : IntKind} {lo hi : Int} (he : P.underlying e = some (.int k)) (hmin : k.min = lo) (hmax : k.max = hi) (fuel : Nat) (cs : List Value) (x : DataW H × List MemPlace)
    (h : DataW.trod enc P w base spare held fuel e cs = some x) (_ : cs.length = (cInt k).sz) : ∃ a : Int, cs = (cInt k).enc a ∧ (lo ≤ a ∧ a ≤ hi) ∧ 1 ≤ Rows.uptoBulk x.1 := by
  obtain ⟨n, rfl, -, hw⟩ := DataW.trod_int he h
  simp only [Lit.wf, Bool.and_eq_true, decide_eq_true_eq, hmin, hmax] at hw
  exact ⟨n, rfl, hw, bulk_one _⟩
theorem el_natb {e : TypeId} {k : IntKind} {hi : Nat} (he : P.underlying e = some (.int k)) (hmin : k.min = 0) (hmax : k.max = (hi : Nat)) (fuel : Nat) (cs : List Value) (x : DataW H × List MemPlace)
    (h : DataW.trod enc P w base spare held fuel e cs = some x) (hc : cs.length = (cNat k).sz) : ∃ a : Nat, cs = (cNat k).enc a ∧ a < hi + 1 ∧ 1 ≤ Rows.uptoBulk x.1 := by
  obtain ⟨a, h1, h2⟩ := el_nat he hmin hmax fuel cs x h hc
  exact ⟨a, h1, h2, bulk_one _⟩
theorem el_boolb {e : TypeId} (he : P.underlying e = some .bool) (fuel : Nat) (cs : List Value) (x : DataW H × List MemPlace)
    (h : DataW.trod enc P w base spare held fuel e cs = some x) (hc : cs.length = cBool.sz) : ∃ a : Bool, cs = cBool.enc a ∧ True ∧ 1 ≤ Rows.uptoBulk x.1 := by
  obtain ⟨a, h1, h2⟩ := el_bool he fuel cs x h hc
  exact ⟨a, h1, h2, bulk_one _⟩
end
set_option maxRecDepth 100000 in
theorem el_made3 {H : Type} {enc : TypeId × Value → H} {w : World} {base : Nat} {spare : Nat → Bool} {held : Bool} (fuel : Nat) (cs : List Value) (x : DataW H × List MemPlace)
    (h : DataW.trod enc Try.prog w base spare held fuel 77 cs = some x) (hl : cs.length = cMade3.sz) : ∃ a : Mk3, cs = cMade3.enc a ∧ MkIn3 a ∧ 4 ≤ Rows.uptoBulk x.1 := by
  have hst : ∃ fs : Array Field, Try.prog.underlying 77 = some (.struct fs) ∧ fs.map (fun f => (f.offset, f.type)) = #[(0, 3), (1, 3), (2, 3)] := ⟨_, Try.underlying77, by kernel_rfl⟩
  obtain ⟨fs, hu, hfs⟩ := hst
  have hi : Try.prog.underlying 3 = some (.int .i64) := Try.underlying3
  have hc1 : Try.prog.cellsOf 3 = 1 := by kernel_rfl
  obtain ⟨ys, n, -, hx, -, hyl, hf⟩ := DataW.trod_struct hu h
  have hlen : fs.size = 3 := by have := congrArg Array.size hfs; simpa using this
  have hbk : 4 ≤ Rows.uptoBulk x.1 := by
    rw [hx]
    have := bulk_len (ys.map (·.1))
    rw [List.length_map, hyl, hlen] at this
    simp only [Rows.uptoBulk]; omega
  have one : ∀ i, i < 3 → ∃ k : Int, cs[i]? = some (.int .i64 k) ∧ In64' k := by
    intro i hi4
    have hget : fs[i]? = some (fs[i]'(by omega)) := Array.getElem?_eq_getElem _
    have h2 : (fs.map (fun f => (f.offset, f.type)))[i]? = some ((fs[i]'(by omega)).offset, (fs[i]'(by omega)).type) := by rw [Array.getElem?_map, hget]; rfl
    rw [hfs] at h2
    have h3 := hf i _ hget
    have h4 : ((fs[i]'(by omega)).offset, (fs[i]'(by omega)).type) = (i, 3) := by
      have : i = 0 ∨ i = 1 ∨ i = 2 := by omega
      rcases this with rfl | rfl | rfl <;> simpa using h2.symm
    simp only [Prod.mk.injEq] at h4
    rw [h4.1, h4.2, hc1] at h3
    have hy : ys[i]? = some (ys[i]'(by omega)) := List.getElem?_eq_getElem _
    rw [hy] at h3
    obtain ⟨k, hk, -, hw⟩ := DataW.trod_int hi h3
    have hcl : cs.length = 3 := hl
    have hd : (cs.drop i).take 1 = [cs[i]'(by omega)] := by
      rw [List.drop_eq_getElem_cons (by omega)]; rfl
    rw [hd] at hk
    refine ⟨k, ?_, ?_⟩
    · rw [List.getElem?_eq_getElem (by omega)]
      injection hk with hk1
      rw [hk1]
    · simp only [Lit.wf, Bool.and_eq_true, decide_eq_true_eq] at hw
      exact hw
  obtain ⟨k0, e0, q0⟩ := one 0 (by decide)
  obtain ⟨k1, e1, q1⟩ := one 1 (by decide)
  obtain ⟨k2, e2, q2⟩ := one 2 (by decide)
  have hcl : cs.length = 3 := hl
  obtain ⟨c0, c1, c2, rfl⟩ : ∃ a b c, cs = [a, b, c] := by
    match cs, hcl with
    | [a, b, c], _ => exact ⟨a, b, c, rfl⟩
  have h0 : c0 = .int .i64 k0 := by injection e0
  have h1 : c1 = .int .i64 k1 := by injection e1
  have h2 : c2 = .int .i64 k2 := by injection e2
  subst h0 h1 h2
  exact ⟨(k0, k1, k2), rfl, ⟨q0, q1, q2⟩, hbk⟩

/-- What is read in the world before is read in all that keep it. -/
theorem ent_old {α : Type} {d : Cd α} {v : Value} {xs : List α} {W : World} {l : List HP} (h : Rd d v xs W) : Ent (Old W :: l) (Rd d v xs) :=
  Ent.old fun w hk => h.mono fun a u ha => by
    have hb : ∃ o, W.heap[a.block]? = some o := by
      cases ho : W.heap[a.block]? with
      | none => rw [World.cell?, ho] at ha; cases ha
      | some o => exact ⟨o, rfl⟩
    obtain ⟨o, ho⟩ := hb
    have := hk _ _ ho
    unfold World.cell? at ha ⊢
    rw [this, ← ho]; exact ha
end Go.Proofs.Ytjeopmiopinlgaa
set_option linter.unusedVariables false
set_option linter.unusedSimpArgs false
namespace Go.Proofs.Ytjeopmiopinlgaa
open Go Go.RowKit Go.ChangeShapes Go.WideShapes Go.ChangeAt SL

namespace tseitinLifts
set_option maxRecDepth 100000 in
theorem contract (H : Type) (enc : TypeId × Value → H) (W : World) (base : Nat) (args : Array Value) (ds gs : List (DataW H)) (before : List MemPlace)
    (hval : ∀ (j : Nat) t v, Try.f7.params[j]? = some t → args[j]? = some v → Value.okWide Try.prog W .any base t v)
    (hW : DataW.Whole enc Try.prog Try.f7.params.toList Rows.tseitinLiftsSpec.vars false W args.toList ds gs before) (hk : Rows.uptoSmall H (ds ++ gs) = true) :
    Calls Try.prog 7 args W fun e W' => ∃ v, e = .returned v ∧ Rows.tseitinLiftsSpec.post enc Try.prog Try.f7 false true false false W args v W' := by
  have hW' := hW
  obtain ⟨p, q, hA0, hV, rfl, hfz, hnd⟩ := hW
  have hA : DataW.TrodAll enc Try.prog W 0 (fun _ => true) true Try.f7.params.toList args.toList ds p := hA0
  rw [Try.params7] at hA hval
  obtain ⟨v0, vs0, d0, ds0, p0, q0, hargs, rfl, rfl, h0, r0⟩ := trodAll_cons hA
  obtain ⟨v1, vs1, d1, ds1, p1, q1, rfl, rfl, rfl, h1, r1⟩ := trodAll_cons r0
  obtain ⟨v2, vs2, d2, ds2, p2, q2, rfl, rfl, rfl, h2, r2⟩ := trodAll_cons r1
  obtain ⟨v3, vs3, d3, ds3, p3, q3, rfl, rfl, rfl, h3, r3⟩ := trodAll_cons r2
  obtain ⟨v4, vs4, d4, ds4, p4, q4, rfl, rfl, rfl, h4, r4⟩ := trodAll_cons r3
  obtain ⟨v5, vs5, d5, ds5, p5, q5, rfl, rfl, rfl, h5, r5⟩ := trodAll_cons r4
  obtain ⟨rfl, rfl, rfl⟩ := trodAll_nil r5
  obtain rfl : args = #[v0, v1, v2, v3, v4, v5] := by cases args; simp_all
  obtain ⟨rfl, rfl⟩ := trodVars_none hV
  clear hA0
  obtain ⟨xs0, hr0, hq0, hl0⟩ := open_rdb 4 cMade3 MkIn3 Try.underlying22 (by kernel_rfl) el_made3 (hval 0 _ v0 rfl rfl) h0
  obtain ⟨xs1, hr1, hq1, hl1⟩ := open_rdb 1 (cInt .i64) In64' Try.underlying23 (by kernel_rfl) (el_intb (lo := -9223372036854775808) (hi := 9223372036854775807) Try.underlying3 rfl rfl) (hval 1 _ v1 rfl rfl) h1
  obtain ⟨xs2, hr2, hq2, hl2⟩ := open_rdb 1 (cNat .u32) (· < 4294967296) Try.underlying24 (by kernel_rfl) (el_natb (hi := 4294967295) Try.underlying42 rfl rfl) (hval 2 _ v2 rfl rfl) h2
  obtain ⟨xs3, hr3, hq3, hl3⟩ := open_rdb 1 (cInt .i64) In64' Try.underlying23 (by kernel_rfl) (el_intb (lo := -9223372036854775808) (hi := 9223372036854775807) Try.underlying3 rfl rfl) (hval 3 _ v3 rfl rfl) h3
  obtain ⟨xs4, hr4, hq4, hl4⟩ := open_rdb 1 (cInt .i8) (fun a => -128 ≤ a ∧ a ≤ 127) Try.underlying50 (by kernel_rfl) (el_intb (lo := -128) (hi := 127) Try.underlying72 rfl rfl) (hval 4 _ v4 rfl rfl) h4
  obtain ⟨xs5, hr5, hq5, hl5⟩ := open_rdb 1 cBool (fun _ => True) Try.underlying48 (by kernel_rfl) (el_boolb Try.underlying4) (hval 5 _ v5 rfl rfl) h5
  have hb : Rows.uptoBulkAll ([d0, d1, d2, d3, d4, d5] ++ []) ≤ 1048576 := of_decide_eq_true hk
  simp only [List.cons_append, List.nil_append, Rows.uptoBulkAll] at hb
  refine (lifts_walk W v0 v1 v2 v3 v4 v5 xs0 xs1 xs2 xs3 xs4 xs5 (ent_old hr0) hq0 (ent_old hr1) hq1 (ent_old hr2) hq2 (ent_old hr3) hq3 (ent_old hr4) hq4 (ent_old hr5) (by omega)).mono ?_
  rintro e W' ⟨rfl, hst⟩
  exact ⟨_, rfl, post_true laidOut hW' hst.old rfl (by decide +kernel) (by kernel_rfl) Try.underlying4 rfl rfl rfl⟩

set_option maxRecDepth 100000 in
theorem lifted (os : Os) (started : os.Started) (H : Type) (enc : TypeId × Value → H) (F : Stop.Interp) :
    ReturnsInHanded {} Try.checked os 7 .any ((Rows.OpenSpec.upto Rows.tseitinLiftsSpec).pre6 enc Try.prog Try.f7 Rows.tseitinLiftsUptoRow.domain false) (((Rows.OpenSpec.upto Rows.tseitinLiftsSpec).at F).post enc Try.prog Try.f7 false true false false) := by
  refine returnsInHanded_of_cond (C := Try.checked) (s := Rows.OpenSpec.upto Rows.tseitinLiftsSpec) (k := Rows.uptoSmall) rfl own started (by kernel_rfl) Try.func7
    (OpenSpec.witness (enc := enc) (C := Try.checked) (s := Rows.OpenSpec.upto Rows.tseitinLiftsSpec) (k := Rows.uptoSmall) rfl false ⟨#[], #[.slice none 0 0, .slice none 0 0, .slice none 0 0, .slice none 0 0, .slice none 0 0, .slice none 0 0], []⟩ 8 (by kernel_rfl) (by kernel_rfl) (by kernel_rfl)
      (x := ([.nil, .nil, .nil, .nil, .nil, .nil], [], [])) (by kernel_rfl) rfl (by kernel_rfl)) ?_
  intro W base args ds gs before hval hW _ hk _
  exact contract H enc W base args ds gs before hval hW hk

theorem proved : Rows.TseitinLiftsUptoSaid :=
  OpenClaim.holds_of_cond 7 Try.f7 rfl rfl rfl rfl rfl rfl rfl ⟨rfl, rfl, rfl, rfl, rfl⟩ rfl rfl rfl rfl rfl (by kernel_rfl) Try.func7 (by kernel_rfl)
    (of_decide_eq_true (by kernel_rfl)) (by unfold Func.isWrapper; first | (rw [if_pos (by decide +kernel)]; kernel_rfl) | (rw [if_neg (by decide +kernel)]; exact ⟨rfl, rfl⟩))
    (fun os started H enc _ F => lifted os started H enc F)
end tseitinLifts
end Go.Proofs.Ytjeopmiopinlgaa
