/- The law CnfAssigns returns true, and its arguments read behind the call as before, whatever the input. Condition: what it reads is of bulk at most 1048576. -/
import Derived.Test.YtnmkdhoijdoccaaRowF
import Derived.Test.YtnmkdhoijdoccaaLAss
set_option linter.unusedVariables false
set_option linter.unusedSimpArgs false
namespace Go.Proofs.Ytnmkdhoijdoccaa
open Go Go.RowKit Go.ChangeShapes Go.WideShapes Go.ChangeAt SL

namespace cnfAssigns
set_option maxRecDepth 100000 in
theorem contract (H : Type) (enc : TypeId × Value → H) (W : World) (base : Nat) (args : Array Value) (ds gs : List (DataW H)) (before : List MemPlace)
    (hval : ∀ (j : Nat) t v, Try.f10.params[j]? = some t → args[j]? = some v → Value.okWide Try.prog W .any base t v)
    (hW : DataW.Whole enc Try.prog Try.f10.params.toList Rows.cnfAssignsSpec.vars false W args.toList ds gs before) (hk : Rows.uptoSmall H (ds ++ gs) = true) :
    Calls Try.prog 10 args W fun e W' => ∃ v, e = .returned v ∧ Rows.cnfAssignsSpec.post enc Try.prog Try.f10 false true false false W args v W' := by
  have hW' := hW
  obtain ⟨p, q, hA0, hV, rfl, hfz, hnd⟩ := hW
  have hA : DataW.TrodAll enc Try.prog W 0 (fun _ => true) true Try.f10.params.toList args.toList ds p := hA0
  rw [Try.params10] at hA hval
  obtain ⟨v0, vs0, d0, ds0, p0, q0, hargs, rfl, rfl, h0, r0⟩ := trodAll_cons hA
  obtain ⟨v1, vs1, d1, ds1, p1, q1, rfl, rfl, rfl, h1, r1⟩ := trodAll_cons r0
  obtain ⟨rfl, rfl, rfl⟩ := trodAll_nil r1
  obtain rfl : args = #[v0, v1] := by cases args; simp_all
  obtain ⟨rfl, rfl⟩ := trodVars_none hV
  clear hA0
  have hst0 : ∃ fs : Array Field, Try.prog.underlying 37 = some (.struct fs) := ⟨_, Try.underlying37⟩
  obtain ⟨fs0, hu0⟩ := hst0
  obtain ⟨cs0, rfl, -⟩ := okWide_struct hu0 (hval 0 _ v0 rfl rfl)
  obtain ⟨fu0, hf0⟩ := h0
  obtain ⟨n0, s0, xs0, hc0, hn0, hr0, hq0, hl0⟩ := open_form fu0 _ _ hf0
  obtain rfl : cs0 = #[.int .i64 n0, s0.val] := by apply Array.toList_inj.1; simpa [Value.cells] using hc0
  have hl0 : (xs0.map fun c => c.length + 1).sum + 1 ≤ Rows.uptoBulk d0 := hl0
  obtain ⟨n1, rfl, rfl, rfl, hn1⟩ := open_int Try.underlying3 (hval 1 _ v1 rfl rfl) h1
  simp only [Lit.wf, Bool.and_eq_true, decide_eq_true_eq] at hn1
  have hb : Rows.uptoBulkAll ([d0, .lit (.int .i64 n1)] ++ []) ≤ 1048576 := of_decide_eq_true hk
  simp only [List.cons_append, List.nil_append, Rows.uptoBulkAll] at hb
  refine (assigns_walk W n0 s0.val xs0 n1 hn0 (ent_old2 hr0) hq0 hn1 (by omega)).mono ?_
  rintro e W' ⟨rfl, hst⟩
  exact ⟨_, rfl, post_true laidOut hW' hst.old rfl (by decide +kernel) (by kernel_rfl) Try.underlying4 rfl rfl rfl⟩

set_option maxRecDepth 100000 in
theorem lifted (os : Os) (started : os.Started) (H : Type) (enc : TypeId × Value → H) (F : Stop.Interp) :
    ReturnsInHanded {} Try.checked os 10 .any ((Rows.OpenSpec.upto Rows.cnfAssignsSpec).pre6 enc Try.prog Try.f10 Rows.cnfAssignsUptoRow.domain false) (((Rows.OpenSpec.upto Rows.cnfAssignsSpec).at F).post enc Try.prog Try.f10 false true false false) := by
  refine returnsInHanded_of_cond (C := Try.checked) (s := Rows.OpenSpec.upto Rows.cnfAssignsSpec) (k := Rows.uptoSmall) rfl own started (by kernel_rfl) Try.func10
    (OpenSpec.witness (enc := enc) (C := Try.checked) (s := Rows.OpenSpec.upto Rows.cnfAssignsSpec) (k := Rows.uptoSmall) rfl false ⟨#[], #[.agg #[.int .i64 0, .slice none 0 0], .int .i64 0], []⟩ 8 (by kernel_rfl) (by kernel_rfl) (by kernel_rfl)
      (x := ([.agg [.lit (.int .i64 0), .nil], .lit (.int .i64 0)], [], [])) (by kernel_rfl) rfl (by kernel_rfl)) ?_
  intro W base args ds gs before hval hW _ hk _
  exact contract H enc W base args ds gs before hval hW hk

theorem proved : Rows.CnfAssignsUptoSaid :=
  OpenClaim.holds_of_cond 10 Try.f10 rfl rfl rfl rfl rfl rfl rfl ⟨rfl, rfl, rfl, rfl, rfl⟩ rfl rfl rfl rfl rfl (by kernel_rfl) Try.func10 (by kernel_rfl)
    (of_decide_eq_true (by kernel_rfl)) (by unfold Func.isWrapper; first | (rw [if_pos (by decide +kernel)]; kernel_rfl) | (rw [if_neg (by decide +kernel)]; exact ⟨rfl, rfl⟩))
    (fun os started H enc _ F => lifted os started H enc F)
end cnfAssigns
end Go.Proofs.Ytnmkdhoijdoccaa
