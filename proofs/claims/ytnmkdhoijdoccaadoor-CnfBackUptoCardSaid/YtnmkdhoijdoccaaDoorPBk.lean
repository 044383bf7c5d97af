/- The law CnfBack returns true, and its arguments read behind the call as before, whatever the input; the card ties the listed tables to the program's text. Condition: what it reads is of bulk at most 1048576. -/
import Derived.Test.YtnmkdhoijdoccaaDoorRowDc
import Derived.Test.YtnmkdhoijdoccaaDoorLBk
set_option linter.unusedVariables false
set_option linter.unusedSimpArgs false
namespace Go.Proofs.YtnmkdhoijdoccaaDoor
open Go Go.RowKit Go.ChangeShapes Go.WideShapes Go.ChangeAt SL

namespace cnfBack
set_option maxRecDepth 100000 in
theorem contract (H : Type) (enc : TypeId × Value → H) (W : World) (base : Nat) (args : Array Value) (ds gs : List (DataW H)) (before : List MemPlace)
    (hval : ∀ (j : Nat) t v, Tryd.f9.params[j]? = some t → args[j]? = some v → Value.okWide Tryd.prog W .any base t v)
    (hW : DataW.Whole enc Tryd.prog Tryd.f9.params.toList Rows.cnfBackSpec.vars false W args.toList ds gs before) (hk : Rows.uptoSmall H (ds ++ gs) = true) (hL : laidMetH Tryd.prog Rows.cnfBackUptoRow.laid W) (hSh : W.ShapedOpen Tryd.prog) :
    Calls Tryd.prog 9 args W fun e W' => ∃ v, e = .returned v ∧ Rows.cnfBackSpec.post enc Tryd.prog Tryd.f9 false true false false W args v W' := by
  have hW' := hW
  obtain ⟨p, q, hA0, hV, rfl, hfz, hnd⟩ := hW
  have hA : DataW.TrodAll enc Tryd.prog W 0 (fun _ => true) true Tryd.f9.params.toList args.toList ds p := hA0
  rw [Tryd.params9] at hA hval
  obtain ⟨v0, vs0, d0, ds0, p0, q0, hargs, rfl, rfl, h0, r0⟩ := trodAll_cons hA
  obtain ⟨v1, vs1, d1, ds1, p1, q1, rfl, rfl, rfl, h1, r1⟩ := trodAll_cons r0
  obtain ⟨rfl, rfl, rfl⟩ := trodAll_nil r1
  obtain rfl : args = #[v0, v1] := by cases args; simp_all
  obtain ⟨rfl, rfl⟩ := trodVars_none hV
  clear hA0
  have hst0 : ∃ fs : Array Field, Tryd.prog.underlying 24 = some (.struct fs) := ⟨_, Tryd.underlying24⟩
  obtain ⟨fs0, hu0⟩ := hst0
  obtain ⟨cs0, rfl, -⟩ := okWide_struct hu0 (hval 0 _ v0 rfl rfl)
  obtain ⟨fu0, hf0⟩ := h0
  obtain ⟨n0, s0, xs0, hc0, hn0, hr0, hq0, hl0⟩ := open_form fu0 _ _ hf0
  obtain rfl : cs0 = #[.int .i64 n0, s0.val] := by apply Array.toList_inj.1; simpa [Value.cells] using hc0
  have hl0 : (xs0.map fun c => c.length + 1).sum + 1 ≤ Rows.uptoBulk d0 := hl0
  obtain ⟨a1, l1, c1, rfl⟩ := okWide_slice Tryd.underlying50 (hval 1 _ v1 rfl rfl)
  obtain ⟨fu1, hf1⟩ := h1
  obtain ⟨s1, xs1, hc1, hn1, hr1, hq1, hl1⟩ := open_ints1 (k := .i64) (lo := -9223372036854775808) (hi := 9223372036854775807) Tryd.underlying50 Tryd.underlying3 (by kernel_rfl) rfl rfl fu1 _ _ hf1
  have hv1 : Value.slice a1 l1 c1 = s1.val := by simpa [Value.cells] using hc1
  rw [← hv1] at hr1
  have hl1 : xs1.length + 1 ≤ Rows.uptoBulk d1 := hl1
  have hb : Rows.uptoBulkAll ([d0, d1] ++ []) ≤ 1048576 := of_decide_eq_true hk
  simp only [List.cons_append, List.nil_append, Rows.uptoBulkAll] at hb
  obtain ⟨mx, hmx⟩ := laysM145.s1_3 W hSh
  refine (back_law W (tab_of (by kernel_rfl) hL) mx hmx n0 s0.val xs0 (.slice a1 l1 c1) xs1 hn0 (ent_old2 hr0) hq0 (ent_old1 hr1) hq1 (by omega)).mono ?_
  rintro e W' ⟨rfl, hst⟩
  exact ⟨_, rfl, post_true laidOut hW' hst.old rfl (by decide +kernel) (by kernel_rfl) Tryd.underlying4 rfl rfl rfl⟩

theorem laid_met (os : Os) : laidMet Tryd.prog Rows.cnfBackUptoRow.laid ((laidWorld os).forCall (fun _ _ => 0) ⟨#[], #[.agg #[.int .i64 0, .slice none 0 0], .slice none 0 0], []⟩).memory :=
  laidMet_of_run' 8 (by kernel_rfl) (by kernel_rfl)
theorem reads (os : Os) {H : Type} (enc : TypeId × Value → H) : ∃ places, DataW.whole enc Tryd.prog ((laidWorld os).forCall (fun _ _ => 0) ⟨#[], #[.agg #[.int .i64 0, .slice none 0 0], .slice none 0 0], []⟩).memory Tryd.f9.params.toList Rows.cnfBackSpec.vars false (#[.agg #[.int .i64 0, .slice none 0 0], .slice none 0 0] : Array Value).toList 8 = some ([.agg [.lit (.int .i64 0), .nil], .nil], [], places) :=
  ⟨[], by kernel_rfl⟩

set_option maxRecDepth 100000 in
theorem lifted (os : Os) (started : os.Started) (H : Type) (enc : TypeId × Value → H) (F : Stop.Interp) :
    ReturnsInHanded {} Tryd.checked os 9 .any ((Rows.OpenSpec.upto Rows.cnfBackSpec).preRow enc Tryd.prog Tryd.f9 Rows.cnfBackUptoRow.domain false Rows.cnfBackUptoRow.laid) (((Rows.OpenSpec.upto Rows.cnfBackSpec).at F).post enc Tryd.prog Tryd.f9 false true false false) := by
  obtain ⟨places, hx⟩ := reads os enc
  refine returnsInHanded_of_row (C := Tryd.checked) (s := Rows.OpenSpec.upto Rows.cnfBackSpec) own started (by kernel_rfl) Tryd.func9
    (witness_row_at (enc := enc) (C := Tryd.checked) false (laidWorld os) #[.agg #[.int .i64 0, .slice none 0 0], .slice none 0 0] rfl (by kernel_rfl) (by kernel_rfl) (by kernel_rfl)
      (OpenSpec.preRow_of_cond 8 hx (by kernel_rfl) (fun k hk => by cases hk; kernel_rfl) (by kernel_rfl) (laid_met os))) ?_
  intro W base args ds gs before hval hW _ hcond _ hL hSh _
  exact contract H enc W base args ds gs before hval hW (hcond _ rfl) hL hSh

theorem said : Rows.CnfBackUptoSaid :=
  OpenClaim.holds_of_cond 9 Tryd.f9 rfl rfl rfl rfl rfl rfl rfl ⟨rfl, rfl, rfl, rfl, rfl⟩ rfl rfl rfl rfl rfl (by kernel_rfl) Tryd.func9 (by kernel_rfl)
    (of_decide_eq_true (by kernel_rfl)) (by unfold Func.isWrapper; first | (rw [if_pos (by decide +kernel)]; kernel_rfl) | (rw [if_neg (by decide +kernel)]; exact ⟨rfl, rfl⟩))
    (fun os started H enc _ F => by rw [OpenClaim.pre_eq_preRow]; exact lifted os started H enc F)

theorem plain (f : FuncId) (fn : Func) (hf : Tryd.pinned.checked.prog.funcNamed "cadence/cadencelaw02.CnfBack" = some f) (hfn : Tryd.pinned.checked.prog.funcs[f]? = some fn) :
    false = Tryd.pinned.checked.prog.looks [] ∧ ∀ (j : Nat) t, fn.params[j]? = some t → Tryd.pinned.checked.prog.wantsStandIn t = false := by
  obtain rfl : f = 9 := Option.some.inj ((show Tryd.prog.funcNamed "cadence/cadencelaw02.CnfBack" = some 9 by kernel_rfl).symm.trans hf) |>.symm
  obtain rfl : fn = Tryd.f9 := (Option.some.inj (Tryd.func9.symm.trans hfn)).symm
  refine ⟨by kernel_rfl, fun j t ht => ?_⟩
  rw [Tryd.params9] at ht
  rcases j with _ | _ | j
  · obtain rfl : t = 24 := by simpa using ht.symm
    exact (show Tryd.prog.wantsStandIn 24 = false by kernel_rfl)
  · obtain rfl : t = 50 := by simpa using ht.symm
    exact (show Tryd.prog.wantsStandIn 50 = false by kernel_rfl)
  · simp at ht

theorem proved : Rows.CnfBackUptoCardSaid :=
  Claim7.holds_tied_plain_at .later [] _ _ _ _ said (fun _ h => by cases h) (by kernel_rfl) (fun _ h => by cases h) cnfBackUpto_row_tie rfl ⟨rfl, rfl⟩ (by kernel_rfl) rfl plain (by kernel_rfl)
end cnfBack
end Go.Proofs.YtnmkdhoijdoccaaDoor
