/- A formula's text: plain definitions, bounds. -/
import Derived.Test.YtnmkdhoijdoccaaDoorCnKy
import Derived.Test.YtnmkdhoijdoccaaDoorCnDe
import Derived.Test.YtnmkdhoijdoccaaDoorCnZ0
set_option linter.unusedVariables false
set_option linter.unusedSimpArgs false
namespace Go.Proofs.YtnmkdhoijdoccaaDoor
open Go Go.RowKit SL

def headT (n : Int) (m : Nat) : List UInt8 := [112, 32, 99, 110, 102, 32] ++ Lib.itoa n ++ [32] ++ Lib.itoa m ++ [10]
def clT (c : List Int) : List UInt8 := keyM c ++ [48, 10]
def bodyT (cls : List (List Int)) : List UInt8 := cls.flatMap clT
/-- Print: the text and the error. -/
def printM (n : Int) (cls : List (List Int)) : List UInt8 × Int := if (checkM n cls).2 ≠ 0 then ([], (checkM n cls).2) else (headT n cls.length ++ bodyT cls, 0)
theorem bodyT_take {cls : List (List Int)} {j : Nat} (h : j < cls.length) : bodyT (cls.take (j + 1)) = bodyT (cls.take j) ++ clT cls[j] := by
  unfold bodyT
  rw [List.take_succ_eq_append_getElem h, List.flatMap_append]
  simp
theorem flatMap_len {α : Type} {l : List α} {f : α → List UInt8} {c : Nat} (h : ∀ x ∈ l, (f x).length ≤ c) : (l.flatMap f).length ≤ c * l.length := by
  induction l with
  | nil => simp
  | cons x l ih =>
    have h1 := h x List.mem_cons_self
    have h2 := ih fun y hy => h y (List.mem_cons_of_mem _ hy)
    rw [List.flatMap_cons, List.length_append, List.length_cons, Nat.mul_succ]
    omega
theorem clT_len {c : List Int} (h : c.length ≤ 1048576) (hI : ∀ x ∈ c, I64 x) : (clT c).length ≤ 22 * 1048576 + 2 := by
  have := keyM_len hI
  unfold clT
  simp only [List.length_append, List.length_cons, List.length_nil]
  omega
theorem bodyT_len {cls : List (List Int)} (hn : cls.length ≤ 1048576) (h : ∀ c ∈ cls, c.length ≤ 1048576 ∧ ∀ x ∈ c, I64 x) (j : Nat) (hj : j ≤ cls.length) : (bodyT (cls.take j)).length ≤ 25000000000000 := by
  have h1 : (bodyT (cls.take j)).length ≤ (22 * 1048576 + 2) * (cls.take j).length := flatMap_len fun c hc => clT_len (h c (List.mem_of_mem_take hc)).1 (h c (List.mem_of_mem_take hc)).2
  rw [List.length_take_of_le hj] at h1
  have h2 : (22 * 1048576 + 2) * j ≤ (22 * 1048576 + 2) * 1048576 := Nat.mul_le_mul_left _ (by omega)
  omega
theorem headT_len {n : Int} {m : Nat} (hn : I64 n) (hm : m ≤ 1048576) : (headT n m).length ≤ 60 := by
  have h1 := Lib.itoa_length_le n hn.1 hn.2
  have h2 := Lib.itoa_length_le (m : Int) (by omega) (by omega)
  unfold headT
  simp only [List.length_append, List.length_cons, List.length_nil]
  omega
/-- A string put behind the call's own bytes. -/
theorem buf_put {w0 w w' : World} {l : List HP} {B : Nat} {v v' : Value} {bs s : List UInt8} (h : SL.St w0 (Buf 5 B v (Lib.byteCells bs) :: l) w) (hs : ∀ P ∈ l, SL.Safe B 5 P) (hB : B ≤ w.heap.size)
    (ho : w'.ownsRow B 5 1 v' ((Lib.byteCells bs).length + s.length) (Lib.byteCells bs ++ Lib.byteCells s)) (hg : w.grownBy w' v.ownBlock) : SL.St w0 (Buf 5 B v' (Lib.byteCells (bs ++ s)) :: l) w' := by
  have h0 := h.buf
  refine h.bufd hs ?_ ((Below.refl _ _).grown hg hB (fun k hk => (h0.lt k hk).1)) ((Lib.OthersKept.refl _ _ _).grown hg (Lib.ownsRow_kind h0))
  rw [Lib.byteCells_append, List.length_append, Lib.byteCells_length s]
  exact ho
set_option maxRecDepth 100000 in
theorem step_str {w0 w : World} {l : List HP} {B : Nat} {v : Value} {bs : List UInt8} (h : SL.St w0 (Buf 5 B v (Lib.byteCells bs) :: l) w) (hs : ∀ P ∈ l, SL.Safe B 5 P) (hB : B ≤ w.heap.size)
    {ops : Array Oper} {rest : List Oper} {o : Oper} {a : Act} {Q : Exit → Act → World → Prop} (hgd : o.guard = none) (sl x : Operand)
    (ho : o.op = .call { callee := .builtin .append, args := #[sl, x], argTypes := #[76, 9] }) (hv : a.eval sl = v) (s : ByteArray) (hx : a.eval x = .string s) (T : List UInt8) (hT : s = ⟨T.toArray⟩) (hlen : bs.length + T.length ≤ 140737488355328)
    (k : ∀ v' w', SL.St w0 (Buf 5 B v' (Lib.byteCells (bs ++ T)) :: l) w' → wpList Tryd.prog ops Q rest (a.put o.dst v') w') : wpList Tryd.prog ops Q (o :: rest) a w := by
  subst hT
  obtain ⟨i0, hi, hz0, hz1, hz2⟩ := info_parts infoU8
  have hb : (Lib.byteCells bs).length = bs.length := Lib.byteCells_length bs
  have hsz : (⟨T.toArray⟩ : ByteArray).size = T.length := size_arr T
  refine Lib.wpList_append_own_string _ hgd sl x _ _ ho B 5 i0 Tryd.underlying76 Tryd.underlying9 hi hz0 hz1 hz2 v _ _ hv h.buf ⟨T.toArray⟩ hx (by rw [hsz]; unfold maxLen; omega) (by rw [hsz]; omega) hB ?_
  intro v' w' h1 h2 _
  refine k v' w' (buf_put h hs hB ?_ h2)
  rw [hsz] at h1
  exact h1
end Go.Proofs.YtnmkdhoijdoccaaDoor
