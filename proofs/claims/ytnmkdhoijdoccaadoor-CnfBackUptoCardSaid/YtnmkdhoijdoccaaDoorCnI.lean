/- Types' facts; rows made; quiet worlds. -/
import Derived.Test.YtnmkdhoijdoccaaDoorCnSm
set_option linter.unusedVariables false
set_option linter.unusedSimpArgs false
namespace Go.Proofs.YtnmkdhoijdoccaaDoor
open Go Go.RowKit SL

theorem infoInt : (Tryd.prog.info? 3).map (fun i => (i.zero, i.size, i.bytes)) = some (some (.int .i64 0), 1, 8) := by kernel_rfl
theorem infoI8 : (Tryd.prog.info? 39).map (fun i => (i.zero, i.size, i.bytes)) = some (some (.int .i8 0), 1, 1) := by kernel_rfl
theorem infoClause : (Tryd.prog.info? 51).map (fun i => (i.zero, i.size, i.bytes)) = some (some (.slice none 0 0), 1, 24) := by kernel_rfl
/-- make([]T, 0, n). -/
theorem run_make_cap {P : Program} (t e : TypeId) (z : Value) (bytes : Nat) (ht : P.underlying t = some (.slice e)) (hinfo : (P.info? e).map (fun i => (i.zero, i.size, i.bytes)) = some (some z, 1, bytes)) (hz1 : z.cells = #[z])
    (kl kc : IntKind) (n : Nat) (m : Int) (hm : m = n) (hbytes : bytes * n ≤ 281474976710656) (h63 : n ≤ 9223372036854775807) (w : World) :
    (Instr.makeSlice t (.int kl 0) (.int kc m)).run P w = .ok (.slice (some ⟨w.heap.size, 0, none⟩) 0 n) (w.alloc (.cells (madeCells #[z] n) e)) := by
  subst hm
  obtain ⟨i, hi, hzz⟩ := Option.map_eq_some_iff.1 hinfo
  simp only [Prod.mk.injEq] at hzz
  obtain ⟨hz, hs, hb⟩ := hzz
  have hb' : (i.bytes : Int) * (n : Int) ≤ 281474976710656 := by
    have h : ((i.bytes * n : Nat) : Int) ≤ 281474976710656 := by rw [hb]; omega
    rwa [Int.natCast_mul] at h
  have hr := run_make (P := P) (w := w) t e i z ht hi hz kl kc 0 n (by omega) (by omega) hb' (by omega)
  simp only [Int.toNat_natCast, Int.toNat_zero, hs, Nat.mul_one, hz1] at hr
  exact hr
/-- A reading of the first ones. -/
theorem Rd.take {α : Type} {d : Cd α} {A : Option Addr} {n c : Nat} {xs : List α} {w : World} (h : Rd d (.slice A n c) xs w) (m : Nat) (hm : m ≤ n) : Rd d (.slice A m c) (xs.take m) w := by
  obtain ⟨A', c', hv, hl, hc⟩ := h
  injection hv with e1 e2 e3
  subst e1; subst e2; subst e3
  have hlen : (xs.take m).length = m := by simp; omega
  refine ⟨A, c, by rw [hlen], by omega, fun i x hx => hc i x ?_⟩
  rw [List.getElem?_take] at hx
  split at hx
  · exact hx
  · cases hx
/-! ### What a call does to its own world does to all that stands in it -/
theorem Sat.through {w : World} {l : List HP} (hl : SL.Sat l (SL.hl w)) : ∀ (ps : List HP) (H : HL), SL.Sat (ps ++ [Old w]) H → SL.Sat (ps ++ l) H
  | [], H, h => by
    obtain ⟨h1, h2, p, q, d, s1, s2⟩ := h
    have p : h1 = SL.hl w := p
    subst p
    exact hl.mono s1
  | P :: ps, H, h => by
    obtain ⟨h1, h2, p, q, d, s1, s2⟩ := h
    exact ⟨h1, h2, p, Sat.through hl ps h2 q, d, s1, s2⟩
theorem St.through {w0 w w' : World} {l ps : List HP} (h : SL.St w0 l w) (h' : SL.St w (ps ++ [Old w]) w') : SL.St w0 (ps ++ l) w' :=
  ⟨h'.os.trans h.os, h'.tape.trans h.tape, h'.output.trans h.output, Nat.le_trans h.size h'.size, Sat.through h.sat ps _ h'.sat⟩
theorem cells_kept {W w : World} (hk : ∀ (b : Nat) (o : Obj), W.heap[b]? = some o → w.heap[b]? = some o) : ∀ a u, W.cell? a = some u → w.cell? a = some u := fun a u ha => by
  have hb : ∃ o, W.heap[a.block]? = some o := by
    cases ho : W.heap[a.block]? with
    | none => rw [World.cell?, ho] at ha; cases ha
    | some o => exact ⟨o, rfl⟩
  obtain ⟨o, ho⟩ := hb
  have := hk _ _ ho
  unfold World.cell? at ha ⊢
  rw [this, ← ho]; exact ha
theorem old1 {α : Type} {d : Cd α} {v : Value} {xs : List α} {W : World} {l : List HP} (h : SL.Rd d v xs W) : Ent (Old W :: l) (SL.Rd d v xs) :=
  Ent.old fun w hk => h.mono (cells_kept hk)
theorem old2 {α : Type} {d : Cd α} {v : Value} {xss : List (List α)} {W : World} {l : List HP} (h : SL.Rd2 d v xss W) : Ent (Old W :: l) (SL.Rd2 d v xss) :=
  Ent.old fun w hk => h.mono (cells_kept hk)
end Go.Proofs.YtnmkdhoijdoccaaDoor
