/- The law CnfSplits returns true, and its arguments read behind the call as before, whatever the input. Condition: what it reads is of bulk at most 1048576. -/
import Derived.Test.YtnmkdhoijdoccaaRowF
import Derived.Test.YtnmkdhoijdoccaaLSpb
set_option linter.unusedVariables false
set_option linter.unusedSimpArgs false
namespace Go.Proofs.Ytnmkdhoijdoccaa
open Go Go.RowKit Go.ChangeShapes Go.WideShapes Go.ChangeAt SL

namespace cnfSplits
set_option maxRecDepth 100000 in
theorem contract (H : Type) (enc : TypeId × Value → H) (W : World) (base : Nat) (args : Array Value) (ds gs : List (DataW H)) (before : List MemPlace)
    (hval : ∀ (j : Nat) t v, Try.f11.params[j]? = some t → args[j]? = some v → Value.okWide Try.prog W .any base t v)
    (hW : DataW.Whole enc Try.prog Try.f11.params.toList Rows.cnfSplitsSpec.vars false W args.toList ds gs before) (hk : Rows.uptoSmall H (ds ++ gs) = true) :
    Calls Try.prog 11 args W fun e W' => ∃ v, e = .returned v ∧ Rows.cnfSplitsSpec.post enc Try.prog Try.f11 false true false false W args v W' := by
  have hW' := hW
  obtain ⟨p, q, hA0, hV, rfl, hfz, hnd⟩ := hW
  have hA : DataW.TrodAll enc Try.prog W 0 (fun _ => true) true Try.f11.params.toList args.toList ds p := hA0
  rw [Try.params11] at hA hval
  obtain ⟨v0, vs0, d0, ds0, p0, q0, hargs, rfl, rfl, h0, r0⟩ := trodAll_cons hA
  obtain ⟨v1, vs1, d1, ds1, p1, q1, rfl, rfl, rfl, h1, r1⟩ := trodAll_cons r0
  obtain ⟨v2, vs2, d2, ds2, p2, q2, rfl, rfl, rfl, h2, r2⟩ := trodAll_cons r1
  obtain ⟨rfl, rfl, rfl⟩ := trodAll_nil r2
  obtain rfl : args = #[v0, v1, v2] := by cases args; simp_all
  obtain ⟨rfl, rfl⟩ := trodVars_none hV
  clear hA0
  have hst0 : ∃ fs : Array Field, Try.prog.underlying 37 = some (.struct fs) := ⟨_, Try.underlying37⟩
  obtain ⟨fs0, hu0⟩ := hst0
  obtain ⟨cs0, rfl, -⟩ := okWide_struct hu0 (hval 0 _ v0 rfl rfl)
  obtain ⟨fu0, hf0⟩ := h0
  obtain ⟨n0, s0, xs0, hc0, hn0, hr0, hq0, hl0⟩ := open_form fu0 _ _ hf0
  obtain rfl : cs0 = #[.int .i64 n0, s0.val] := by apply Array.toList_inj.1; simpa [Value.cells] using hc0
  have hl0 : (xs0.map fun c => c.length + 1).sum + 1 ≤ Rows.uptoBulk d0 := hl0
  obtain ⟨n1, rfl, rfl, rfl, hn1⟩ := open_int Try.underlying3 (hval 1 _ v1 rfl rfl) h1
  simp only [Lit.wf, Bool.and_eq_true, decide_eq_true_eq] at hn1
  obtain ⟨a2, l2, c2, rfl⟩ := okWide_slice Try.underlying50 (hval 2 _ v2 rfl rfl)
  obtain ⟨fu2, hf2⟩ := h2
  obtain ⟨s2, xs2, hc2, hn2, hr2, hq2, hl2⟩ := open_ints1 (k := .i8) (lo := -128) (hi := 127) Try.underlying50 Try.underlying51 (by kernel_rfl) rfl rfl fu2 _ _ hf2
  have hv2 : Value.slice a2 l2 c2 = s2.val := by simpa [Value.cells] using hc2
  rw [← hv2] at hr2
  have hl2 : xs2.length + 1 ≤ Rows.uptoBulk d2 := hl2
  have hb : Rows.uptoBulkAll ([d0, .lit (.int .i64 n1), d2] ++ []) ≤ 1048576 := of_decide_eq_true hk
  simp only [List.cons_append, List.nil_append, Rows.uptoBulkAll] at hb
  refine (splits_walk W n0 s0.val xs0 n1 (.slice a2 l2 c2) xs2 hn0 (ent_old2 hr0) hq0 hn1 (ent_old1 hr2) hq2 (by omega)).mono ?_
  rintro e W' ⟨rfl, hst⟩
  exact ⟨_, rfl, post_true laidOut hW' hst.old rfl (by decide +kernel) (by kernel_rfl) Try.underlying4 rfl rfl rfl⟩

set_option maxRecDepth 100000 in
theorem lifted (os : Os) (started : os.Started) (H : Type) (enc : TypeId × Value → H) (F : Stop.Interp) :
    ReturnsInHanded {} Try.checked os 11 .any ((Rows.OpenSpec.upto Rows.cnfSplitsSpec).pre6 enc Try.prog Try.f11 Rows.cnfSplitsUptoRow.domain false) (((Rows.OpenSpec.upto Rows.cnfSplitsSpec).at F).post enc Try.prog Try.f11 false true false false) := by
  refine returnsInHanded_of_cond (C := Try.checked) (s := Rows.OpenSpec.upto Rows.cnfSplitsSpec) (k := Rows.uptoSmall) rfl own started (by kernel_rfl) Try.func11
    (OpenSpec.witness (enc := enc) (C := Try.checked) (s := Rows.OpenSpec.upto Rows.cnfSplitsSpec) (k := Rows.uptoSmall) rfl false ⟨#[], #[.agg #[.int .i64 0, .slice none 0 0], .int .i64 0, .slice none 0 0], []⟩ 8 (by kernel_rfl) (by kernel_rfl) (by kernel_rfl)
      (x := ([.agg [.lit (.int .i64 0), .nil], .lit (.int .i64 0), .nil], [], [])) (by kernel_rfl) rfl (by kernel_rfl)) ?_
  intro W base args ds gs before hval hW _ hk _
  exact contract H enc W base args ds gs before hval hW hk

theorem proved : Rows.CnfSplitsUptoSaid :=
  OpenClaim.holds_of_cond 11 Try.f11 rfl rfl rfl rfl rfl rfl rfl ⟨rfl, rfl, rfl, rfl, rfl⟩ rfl rfl rfl rfl rfl (by kernel_rfl) Try.func11 (by kernel_rfl)
    (of_decide_eq_true (by kernel_rfl)) (by unfold Func.isWrapper; first | (rw [if_pos (by decide +kernel)]; kernel_rfl) | (rw [if_neg (by decide +kernel)]; exact ⟨rfl, rfl⟩))
    (fun os started H enc _ F => lifted os started H enc F)
end cnfSplits
end Go.Proofs.Ytnmkdhoijdoccaa
