/- The map of gates: asking it, adding to it. -/
import Derived.Test.YtjllogellpfpkaaDoorAigW
set_option linter.unusedVariables false
set_option linter.unusedSimpArgs false
namespace Go.Proofs.YtjllogellpfpkaaDoor
open Go Go.RowKit SL

theorem gate_check (e : Bool) (a b : Int) (w : World) : (Instr.checkKey e 10000 75 (.agg #[.int .u32 a, .int .u32 b])).run Tryd.prog w = .ok () w := by kernel_rfl
theorem gate_eq (a b c d : Int) (w : World) : (Op.equal 75 (.agg #[.int .u32 a, .int .u32 b]) (.agg #[.int .u32 c, .int .u32 d])).run Tryd.prog w = .ok (a == c && b == d) w := by
  simp only [Op.equal, Op.maxDepth]
  go_simp
  by_cases h1 : a = c <;> by_cases h2 : b = d <;> simp [h1, h2]
theorem gate_eq' (p q : Nat × Nat) (w : World) : (Op.equal 75 (gKey p) (gKey q)).run Tryd.prog w = .ok (decide (p = q)) w := by
  unfold gKey
  rw [gate_eq]
  congr 1
  obtain ⟨a, b⟩ := p
  obtain ⟨c, d⟩ := q
  by_cases h1 : a = c <;> by_cases h2 : b = d <;> simp [h1, h2, Int.natCast_inj]
theorem find_asking (p : Nat × Nat) (w : World) : ∀ (m : List ((Nat × Nat) × Nat)) (es : List MapEntry) (i : Nat), es.map (fun e => (e.key, e.val)) = m.map (fun (q, x) => (gKey q, Value.int .u32 (x : Nat))) →
    (Instr.findAsking 75 (gKey p) es i).run Tryd.prog w = .ok ((lookIn p m i).map fun (j, x) => (j, Value.int .u32 (x : Nat))) w := by
  intro m
  induction m with
  | nil =>
    intro es i h
    obtain rfl : es = [] := by simpa using h
    rfl
  | cons y m ih =>
    intro es i h
    obtain ⟨q, x⟩ := y
    cases es with
    | nil => simp at h
    | cons e es =>
      simp only [List.map_cons, List.cons.injEq, Prod.mk.injEq] at h
      obtain ⟨⟨hk, hv⟩, h'⟩ := h
      have h1 := ih es (i + 1) h'
      simp only [Instr.findAsking, Sem.run_bind, hk, gate_eq', Result.andThen_ok]
      by_cases hpq : p = q
      · simp [hpq, lookIn, hv]
      · simp [hpq, lookIn, h1]
theorem find_now (p : Nat × Nat) (es : List MapEntry) : Instr.findNow (.struct (Tryd.prog.fieldsOf 75)) (gKey p) es 0 = if es = [] then some none else none := by
  cases es with
  | nil => rfl
  | cons e es => simp [Instr.findNow, Instr.sameNow, gKey]
theorem gate_under : Tryd.prog.underlying 75 = some (.struct (Tryd.prog.fieldsOf 75)) := by kernel_rfl
theorem find_key (p : Nat × Nat) (w : World) (m : List ((Nat × Nat) × Nat)) (es : List MapEntry) (h : es.map (fun e => (e.key, e.val)) = m.map (fun (q, x) => (gKey q, Value.int .u32 (x : Nat)))) :
    (Instr.findKey 75 (gKey p) es).run Tryd.prog w = .ok ((lookIn p m 0).map fun (j, x) => (j, Value.int .u32 (x : Nat))) w := by
  have h1 := find_asking p w m es 0 h
  simp only [Instr.findKey, Sem.run_bind, run_underlying gate_under, Result.andThen_ok, find_now]
  by_cases he : es = []
  · subst he
    obtain rfl : m = [] := by simpa using h.symm
    simp [lookIn]
  · simp [he, h1]
/-- 'v, ok := m[k]'. -/
theorem run_gate_lookup (p : Nat × Nat) (w : World) (b : Nat) (m : List ((Nat × Nat) × Nat)) (es : Array MapEntry) (clock : Nat) (hb : w.heap[b]? = some (.map es clock))
    (h : es.toList.map (fun e => (e.key, e.val)) = m.map (fun (q, x) => (gKey q, Value.int .u32 (x : Nat)))) :
    (Instr.lookup 86 (.map (some b)) (gKey p) true).run Tryd.prog w = .ok (.tuple #[.int .u32 (((lookIn p m 0).map (·.2)).getD 0 : Nat), .bool (lookIn p m 0).isSome]) w := by
  have h1 := find_key p w m es.toList h
  have h2 : ∀ e, (Instr.checkKey e 10000 75 (gKey p)).run Tryd.prog w = .ok () w := fun e => gate_check e p.1 p.2 w
  have hz : (zeroValue 32).run Tryd.prog w = .ok (.int .u32 0) w := by kernel_rfl
  have hu : Tryd.prog.underlying 86 = some (.map 75 32) := by kernel_rfl
  have hg : (getObj b).run Tryd.prog w = .ok (.map es clock) w := by simp [getObj, Sem.run, hb]
  simp only [Instr.lookup, Sem.run_bind, run_underlying hu, Result.andThen_ok, hg, h2, h1, Sem.run_pure]
  cases lookIn p m 0 with
  | none => simp [hz]
  | some y => simp
/-- 'm[k] = v', k a new key. -/
theorem run_gate_update (p : Nat × Nat) (x : Nat) (w : World) (b : Nat) (m : List ((Nat × Nat) × Nat)) (es : Array MapEntry) (clock : Nat) (hb : w.heap[b]? = some (.map es clock))
    (h : es.toList.map (fun e => (e.key, e.val)) = m.map (fun (q, x) => (gKey q, Value.int .u32 (x : Nat)))) (hn : lookIn p m 0 = none) :
    (Instr.mapUpdate 86 (.map (some b)) (gKey p) (.int .u32 (x : Nat))).run Tryd.prog w =
      .ok () { w with heap := w.heap.setIfInBounds b (.map (es.push { key := gKey p, val := .int .u32 (x : Nat), born := clock }) (clock + 1)) } := by
  have h1 := find_key p w m es.toList h
  have h2 : ∀ e, (Instr.checkKey e 10000 75 (gKey p)).run Tryd.prog w = .ok () w := fun e => gate_check e p.1 p.2 w
  have hu : Tryd.prog.underlying 86 = some (.map 75 32) := by kernel_rfl
  have hg : (getObj b).run Tryd.prog w = .ok (.map es clock) w := by simp [getObj, Sem.run, hb]
  simp only [Instr.mapUpdate, Sem.run_bind, run_underlying hu, Result.andThen_ok, hg, h2, h1, hn, Option.map_none]
  simp [setObj, Sem.run, hb]
end Go.Proofs.YtjllogellpfpkaaDoor
