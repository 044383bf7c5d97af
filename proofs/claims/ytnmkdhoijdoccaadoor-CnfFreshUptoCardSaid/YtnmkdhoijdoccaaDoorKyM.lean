/- The map of texts: asking it, adding to it. -/
import Derived.Test.YtnmkdhoijdoccaaDoorRw
import Derived.Test.YtnmkdhoijdoccaaDoorProg
import Derived.MapKept
set_option linter.unusedVariables false
set_option linter.unusedSimpArgs false
namespace Go.Proofs.YtnmkdhoijdoccaaDoor
open Go Go.RowKit SL

def sKey (k : List UInt8) : Value := .string ⟨k.toArray⟩
/-- A map from texts to nothing. -/
def SMap (b : Nat) (ks : List (List UInt8)) : HP := fun h => ∃ es clock, h b = some (.map es clock) ∧ es.toList.map (fun e => (e.key, e.val)) = ks.map (fun k => (sKey k, Value.agg #[]))
def lookS (k : List UInt8) : List (List UInt8) → Nat → Option (Nat × Value)
  | [], _ => none
  | q :: ks, i => if k = q then some (i, .agg #[]) else lookS k ks (i + 1)
theorem lookS_some (k : List UInt8) : ∀ (ks : List (List UInt8)) (i : Nat), (lookS k ks i).isSome = decide (k ∈ ks)
  | [], _ => rfl
  | q :: ks, i => by
    unfold lookS
    by_cases h : k = q
    · simp [h]
    · rw [if_neg h, lookS_some k ks]; simp [h]
theorem lookS_val (k : List UInt8) : ∀ (ks : List (List UInt8)) (i j : Nat) (v : Value), lookS k ks i = some (j, v) → v = .agg #[]
  | [], _, _, _, h => by cases h
  | q :: ks, i, j, v, h => by
    unfold lookS at h
    split at h
    · injection h with h; injection h with _ h; exact h.symm
    · exact lookS_val k ks _ _ _ h
theorem sKey_beq (a b : List UInt8) : ((⟨a.toArray⟩ : ByteArray) == ⟨b.toArray⟩) = decide (a = b) := by
  by_cases h : a = b
  · subst h; rw [decide_eq_true rfl]; exact (Go.MapKept.bytes_beq _ _).2 rfl
  · rw [decide_eq_false h, Bool.eq_false_iff]
    intro e
    have e := (Go.MapKept.bytes_beq _ _).1 e
    injection e with e
    exact h (by simpa using e)
theorem find_s (k : List UInt8) : ∀ (ks : List (List UInt8)) (es : List MapEntry) (i : Nat), es.map (fun e => (e.key, e.val)) = ks.map (fun k => (sKey k, Value.agg #[])) →
    Instr.findNow .string (sKey k) es i = some (lookS k ks i) := by
  intro ks
  induction ks with
  | nil =>
    intro es i h
    obtain rfl : es = [] := by simpa using h
    rfl
  | cons q ks ih =>
    intro es i h
    cases es with
    | nil => simp at h
    | cons e es =>
      simp only [List.map_cons, List.cons.injEq, Prod.mk.injEq] at h
      obtain ⟨⟨hk, hv⟩, h'⟩ := h
      have h1 := ih es (i + 1) h'
      have h2 : Instr.sameNow .string (sKey k) e.key = some (decide (k = q)) := by
        rw [hk]; show some _ = _; rw [sKey_beq]
      unfold Instr.findNow lookS
      rw [h2]
      by_cases hq : k = q
      · simp [hq, hv]
      · simp [hq, h1]
theorem find_key_s (k : List UInt8) (ks : List (List UInt8)) (es : List MapEntry) (w : World) (h : es.map (fun e => (e.key, e.val)) = ks.map (fun k => (sKey k, Value.agg #[]))) :
    (Instr.findKey 9 (sKey k) es).run Tryd.prog w = .ok (lookS k ks 0) w := by
  simp only [Instr.findKey, Sem.run_bind, run_underlying Tryd.underlying9, Result.andThen_ok, find_s k ks es 0 h, Sem.run_pure]
theorem check_s (e : Bool) (k : List UInt8) (w : World) : (Instr.checkKey e 10000 9 (sKey k)).run Tryd.prog w = .ok () w := by kernel_rfl
/-- '_, ok := m[k]'. -/
theorem run_s_lookup (k : List UInt8) (ks : List (List UInt8)) (w : World) (b : Nat) (es : Array MapEntry) (clock : Nat) (hb : w.heap[b]? = some (.map es clock))
    (h : es.toList.map (fun e => (e.key, e.val)) = ks.map (fun k => (sKey k, Value.agg #[]))) :
    (Instr.lookup 100 (.map (some b)) (sKey k) true).run Tryd.prog w = .ok (.tuple #[.agg #[], .bool (decide (k ∈ ks))]) w := by
  have h1 := find_key_s k ks es.toList w h
  have h2 : ∀ e, (Instr.checkKey e 10000 9 (sKey k)).run Tryd.prog w = .ok () w := fun e => check_s e k w
  have hz : (zeroValue 101).run Tryd.prog w = .ok (.agg #[]) w := by kernel_rfl
  have hu : Tryd.prog.underlying 100 = some (.map 9 101) := by kernel_rfl
  have hg : (getObj b).run Tryd.prog w = .ok (.map es clock) w := by simp [getObj, Sem.run, hb]
  have hl := lookS_some k ks 0
  simp only [Instr.lookup, Sem.run_bind, run_underlying hu, Result.andThen_ok, hg, h2, h1, Sem.run_pure]
  cases hq : lookS k ks 0 with
  | none => rw [hq] at hl; simp [hz, ← hl]
  | some y =>
    obtain ⟨j, v⟩ := y
    rw [hq] at hl
    have := lookS_val k ks 0 j v hq
    subst this
    simp [← hl]
/-- 'm[k] = struct{}{}', k a new key. -/
theorem run_s_update (k : List UInt8) (ks : List (List UInt8)) (w : World) (b : Nat) (es : Array MapEntry) (clock : Nat) (hb : w.heap[b]? = some (.map es clock))
    (h : es.toList.map (fun e => (e.key, e.val)) = ks.map (fun k => (sKey k, Value.agg #[]))) (hn : k ∉ ks) :
    (Instr.mapUpdate 100 (.map (some b)) (sKey k) (.agg #[])).run Tryd.prog w = .ok () { w with heap := w.heap.setIfInBounds b (.map (es.push { key := sKey k, val := .agg #[], born := clock }) (clock + 1)) } := by
  have h1 := find_key_s k ks es.toList w h
  have h2 : ∀ e, (Instr.checkKey e 10000 9 (sKey k)).run Tryd.prog w = .ok () w := fun e => check_s e k w
  have hu : Tryd.prog.underlying 100 = some (.map 9 101) := by kernel_rfl
  have hg : (getObj b).run Tryd.prog w = .ok (.map es clock) w := by simp [getObj, Sem.run, hb]
  have hl := lookS_some k ks 0
  rw [decide_eq_false hn] at hl
  have hq : lookS k ks 0 = none := by simpa using hl
  rw [hq] at h1
  simp only [Instr.mapUpdate, Sem.run_bind, run_underlying hu, Result.andThen_ok, hg, h2, h1]
  simp [setObj, Sem.run, hb]
section
variable {w0 w : World} {l : List HP} {b : Nat} {ks : List (List UInt8)}
theorem St.smap (h : SL.St w0 (SMap b ks :: l) w) : ∃ es clock, es.toList.map (fun e => (e.key, e.val)) = ks.map (fun k => (sKey k, Value.agg #[])) ∧ SL.St w0 (Blk b (.map es clock) :: l) w := by
  obtain ⟨es, h⟩ := SL.St.ex h
  obtain ⟨clock, h⟩ := SL.St.ex h
  have h2 := SL.St.pure (φ := es.toList.map (fun e => (e.key, e.val)) = ks.map (fun k => (sKey k, Value.agg #[]))) (P := Blk b (.map es clock)) (h.imp fun k p => ⟨p.2, p.1⟩)
  exact ⟨es, clock, h2.1, h2.2⟩
theorem smap_new (h : SL.St w0 (Blk b (.map #[] 0) :: l) w) : SL.St w0 (SMap b [] :: l) w := h.imp fun k p => ⟨#[], 0, p, rfl⟩
theorem smap_add {es : Array MapEntry} {clock : Nat} (k : List UInt8) (he : es.toList.map (fun e => (e.key, e.val)) = ks.map (fun k => (sKey k, Value.agg #[]))) (h : SL.St w0 (Blk b (.map es clock) :: l) w) :
    SL.St w0 (SMap b (ks ++ [k]) :: l) { w with heap := w.heap.setIfInBounds b (.map (es.push { key := sKey k, val := .agg #[], born := clock }) (clock + 1)) } :=
  (h.setObj _).imp fun h' hb' => ⟨_, _, hb', by simp [he]⟩
end
end Go.Proofs.YtnmkdhoijdoccaaDoor
