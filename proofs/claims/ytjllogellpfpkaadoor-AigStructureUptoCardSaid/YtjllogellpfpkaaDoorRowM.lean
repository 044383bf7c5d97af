/- Rows: scripts opened. -/
import Derived.Test.YtjllogellpfpkaaDoorRowK
import Derived.Test.YtjllogellpfpkaaDoorAigR0
set_option linter.unusedVariables false
set_option linter.unusedSimpArgs false
namespace Go.Proofs.YtjllogellpfpkaaDoor
open Go Go.RowKit Go.ChangeShapes Go.WideShapes Go.ChangeAt SL

set_option maxRecDepth 100000 in
theorem el_made {H : Type} {enc : TypeId × Value → H} {w : World} {base : Nat} {spare : Nat → Bool} {held : Bool} (fuel : Nat) (cs : List Value) (x : DataW H × List MemPlace)
    (h : DataW.trod enc Tryd.prog w base spare held fuel 28 cs = some x) (hl : cs.length = cMade.sz) : ∃ a : Mk, cs = cMade.enc a ∧ MkIn a := by
  have hst : ∃ fs : Array Field, Tryd.prog.underlying 28 = some (.struct fs) ∧ fs.map (fun f => (f.offset, f.type)) = #[(0, 3), (1, 3), (2, 3), (3, 3)] := ⟨_, Tryd.underlying28, by kernel_rfl⟩
  obtain ⟨fs, hu, hfs⟩ := hst
  have hi : Tryd.prog.underlying 3 = some (.int .i64) := Tryd.underlying3
  have hc1 : Tryd.prog.cellsOf 3 = 1 := by kernel_rfl
  obtain ⟨ys, n, -, -, -, hyl, hf⟩ := DataW.trod_struct hu h
  have hlen : fs.size = 4 := by have := congrArg Array.size hfs; simpa using this
  have one : ∀ i, i < 4 → ∃ k : Int, cs[i]? = some (.int .i64 k) ∧ In64 k := by
    intro i hi4
    have hget : fs[i]? = some (fs[i]'(by omega)) := Array.getElem?_eq_getElem _
    have h2 : (fs.map (fun f => (f.offset, f.type)))[i]? = some ((fs[i]'(by omega)).offset, (fs[i]'(by omega)).type) := by rw [Array.getElem?_map, hget]; rfl
    rw [hfs] at h2
    have h3 := hf i _ hget
    have h4 : ((fs[i]'(by omega)).offset, (fs[i]'(by omega)).type) = (i, 3) := by
      have : i = 0 ∨ i = 1 ∨ i = 2 ∨ i = 3 := by omega
      rcases this with rfl | rfl | rfl | rfl <;> simpa using h2.symm
    simp only [Prod.mk.injEq] at h4
    rw [h4.1, h4.2, hc1] at h3
    have hy : ys[i]? = some (ys[i]'(by omega)) := List.getElem?_eq_getElem _
    rw [hy] at h3
    obtain ⟨k, hk, -, hw⟩ := DataW.trod_int hi h3
    have hcl : cs.length = 4 := hl
    have hd : (cs.drop i).take 1 = [cs[i]'(by omega)] := by
      rw [List.drop_eq_getElem_cons (by omega)]; rfl
    rw [hd] at hk
    refine ⟨k, ?_, ?_⟩
    · rw [List.getElem?_eq_getElem (by omega)]
      injection hk with hk1
      rw [hk1]
    · simp only [Lit.wf, Bool.and_eq_true, decide_eq_true_eq] at hw
      exact hw
  obtain ⟨k0, e0, q0⟩ := one 0 (by decide)
  obtain ⟨k1, e1, q1⟩ := one 1 (by decide)
  obtain ⟨k2, e2, q2⟩ := one 2 (by decide)
  obtain ⟨k3, e3, q3⟩ := one 3 (by decide)
  have hcl : cs.length = 4 := hl
  obtain ⟨c0, c1, c2, c3, rfl⟩ : ∃ a b c d, cs = [a, b, c, d] := by
    match cs, hcl with
    | [a, b, c, d], _ => exact ⟨a, b, c, d, rfl⟩
  have h0 : c0 = .int .i64 k0 := by injection e0
  have h1 : c1 = .int .i64 k1 := by injection e1
  have h2 : c2 = .int .i64 k2 := by injection e2
  have h3 : c3 = .int .i64 k3 := by injection e3
  subst h0 h1 h2 h3
  exact ⟨(k0, k1, k2, k3), rfl, q0, q1, q2, q3⟩

/-- What is read in the world before is read in all that keep it. -/
theorem ent_old {α : Type} {d : Cd α} {v : Value} {xs : List α} {W : World} {l : List HP} (h : Rd d v xs W) : Ent (Old W :: l) (Rd d v xs) :=
  Ent.old fun w hk => h.mono fun a u ha => by
    have hb : ∃ o, W.heap[a.block]? = some o := by
      cases ho : W.heap[a.block]? with
      | none => rw [World.cell?, ho] at ha; cases ha
      | some o => exact ⟨o, rfl⟩
    obtain ⟨o, ho⟩ := hb
    have := hk _ _ ho
    unfold World.cell? at ha ⊢
    rw [this, ← ho]; exact ha

end Go.Proofs.YtjllogellpfpkaaDoor
