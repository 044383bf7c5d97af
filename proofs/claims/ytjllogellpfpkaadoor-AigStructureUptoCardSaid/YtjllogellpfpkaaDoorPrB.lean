/- Print's two closures: a literal's number, and a line. -/
import Derived.Test.YtjllogellpfpkaaDoorPrA
import Derived.Test.YtjllogellpfpkaaDoorEmbB
import Derived.Test.YtjllogellpfpkaaDoorAigI
set_option linter.unusedVariables false
set_option linter.unusedSimpArgs false
namespace Go.Proofs.YtjllogellpfpkaaDoor
open Go Go.RowKit SL

set_option maxHeartbeats 400000 in
theorem lit_walk (w : World) (kt : Nat) (v : Value) (V : List Nat) (hk : w.cell? ⟨kt, 0, none⟩ = some v) (hr : Rd (cNat .u32) v V w) (x : Nat) (hx : x / 2 < V.length) (hl : V.length ≤ 1073741824) (hb : ∀ y ∈ V, y ≤ 1073741824) :
    Calls Tryd.prog 44 #[.int .u32 (x : Nat), .pointer (some ⟨kt, 0, none⟩)] w fun e w' => w = w' ∧ e = .returned (.int .u32 (litV V x : Nat)) := by
  obtain ⟨A, c, rfl, -, hc⟩ := hr
  obtain ⟨ad, rfl, hcell⟩ := rd_at hc (x / 2) hx
  have hq : (x : Int) / 2 = ((x / 2 : Nat) : Int) := by omega
  have HW := Lib.hid (show litV V x = 2 * V[x / 2] + x % 2 by
    unfold litV; rw [List.getD_eq_getElem?_getD, List.getElem?_eq_getElem hx]; rfl)
  have hzb := hb _ (List.getElem_mem hx)
  have hand : bits .and .u32 (x : Int) 1 = ((x % 2 : Nat) : Int) := by
    have := u32_and_nat x 1 (by omega) (by omega)
    rw [Nat.and_one_is_mod] at this
    exact this
  clear hc hb
  generalize hqq : x / 2 = q at *
  generalize hz : V[q] = z at *
  generalize litV V x = W at *
  clear hz hqq
  have hr2 : x % 2 < 2 := by omega
  generalize x % 2 = r at *
  go_enter Tryd.func44, Tryd.ntmps44
  go_wp2_with fail
  go_ret
  refine ⟨rfl, ?_⟩
  rw [HW.out]
  congr 2
  try omega

theorem dec_len (u : Nat) (hu : u < 18446744073709551616) : (Lib.decDigits u).length ≤ 20 := by
  rw [Lib.decDigits_length]
  by_cases h0 : u < 1
  · rw [Lib.nDigits_small (by omega)]; omega
  · have := Lib.numDigits_eq u (by omega) hu
    split at this <;> omega
theorem joinTo_len {xs : List Nat} (hx : ∀ x ∈ xs, x < 4294967296) : ∀ j, j ≤ xs.length → (joinTo xs j).length ≤ 21 * j := by
  intro j
  induction j with
  | zero => intro _; simp [joinTo]
  | succ j ih =>
    intro hj
    have h1 := ih (by omega)
    have e : xs.getD j 0 = xs[j] := by simp [List.getD_eq_getElem?_getD, show j < xs.length by omega]
    have h2 := dec_len (xs.getD j 0) (by rw [e]; have := hx _ (List.getElem_mem (show j < xs.length by omega)); omega)
    rw [joinTo_succ, List.length_append, List.length_append]
    have h3 : (if j = 0 then ([] : List UInt8) else [32]).length ≤ 1 := by split <;> simp
    omega
theorem lineM_len {xs : List Nat} (hx : ∀ x ∈ xs, x < 4294967296) : (lineM xs).length ≤ 21 * xs.length + 1 := by
  have := joinTo_len hx xs.length (Nat.le_refl _)
  unfold lineM
  simp; omega

set_option maxRecDepth 100000 in
set_option maxHeartbeats 4000000 in
theorem line_walk (w0 w : World) (l : List HP) (B b : Nat) (bs : List UInt8) (v : Value) (xs : List Nat) (hst : SL.St w0 (BldB B b bs :: l) w) (hs : ∀ P ∈ l, SL.Safe B 5 P) (hr : Ent l (Rd (cNat .u32) v xs)) (ht : Ent l Tab) (hx : ∀ x ∈ xs, x < 4294967296) (hxl : xs.length ≤ 1000) (hlen : bs.length ≤ 100000000000000) :
    Calls Tryd.prog 40 #[v, .pointer (some ⟨b, 0, none⟩)] w fun e w' => e = .returned (.tuple #[]) ∧ SL.St w0 (BldB B b (bs ++ lineM xs) :: l) w' := by
  obtain ⟨A, c, hv, hm, -⟩ := hr.use hst.drop
  subst hv
  have hjl := joinTo_len hx
  go_enter Tryd.func40, Tryd.ntmps40
  go_wp2_with fail
  go_loopg [7] xs.length (fun k i wr => ∃ j : Nat, j ≤ xs.length ∧ k = xs.length - j ∧ i = .int .i64 j ∧ SL.St w0 (BldB B b (bs ++ joinTo xs j) :: l) wr)
  case atStart => exact ⟨0, Nat.zero_le _, rfl, rfl, by simpa [joinTo] using hst⟩
  case round =>
    clear hst
    obtain ⟨j, hj, hgk, rfl, hsr⟩ := hrel
    subst hgk
    by_cases hlt : j < xs.length
    · obtain ⟨A', c', hv, -, hc⟩ := hr.use hsr.drop
      obtain ⟨ad, hA', hcell⟩ := rd_at hc j hlt
      obtain rfl : A = some ad := by
        have : A' = A := by injection hv with h1; exact h1.symm
        rw [← this]; exact hA'
      have hxb := hx _ (List.getElem_mem hlt)
      have HJ := Lib.hid (show joinTo xs (j + 1) = joinTo xs j ++ ((if j = 0 then [] else [32]) ++ Lib.decDigits xs[j]) by
        rw [joinTo_succ]; simp [List.getD_eq_getElem?_getD, hlt])
      have hl1 := hjl j hj
      clear hc hv hA' hjl
      generalize hxx : xs[j] = x at *
      clear hxx
      generalize joinTo xs j = J at *
      have hd := dec_len x (by omega)
      have key : ∀ (K : List UInt8) (w1 : World), K.length ≤ J.length + 1 → SL.St w0 (BldB B b (bs ++ K) :: l) w1 →
          Calls Tryd.prog 43 #[.int .u64 x, .int .i64 10] w1 fun e w' => e = .returned (.string ⟨(Lib.decDigits x).toArray⟩) ∧ SL.St w0 (BldB B b (bs ++ K) :: l) w' := fun K w1 hK h => by
        refine (fmt_walk x (by omega) w1 (ht.use h.drop)).mono ?_
        rintro e w' ⟨rfl, hB⟩
        exact ⟨rfl, h.below hB⟩
      have key2 : ∀ (K : List UInt8) (w1 : World), K.length ≤ J.length + 1 → SL.St w0 (BldB B b (bs ++ K) :: l) w1 →
          Calls Tryd.prog 42 #[.pointer (some ⟨b, 0, none⟩), .string ⟨(Lib.decDigits x).toArray⟩] w1 fun e w' => (∃ n, e = .returned (.tuple #[.int .i64 n, .nilIface])) ∧ SL.St w0 (BldB B b (bs ++ (K ++ Lib.decDigits x)) :: l) w' := fun K w1 hK h => by
        refine (writeString_walk h hs ⟨(Lib.decDigits x).toArray⟩ (by simp [ByteArray.size]; omega)).mono ?_
        rintro e w' ⟨rfl, h2⟩
        refine ⟨⟨_, rfl⟩, ?_⟩
        rw [List.append_assoc] at h2
        exact h2
      by_cases hj0 : j = 0
      · have hng : ¬ (0 : Int) < (j : Int) := by omega
        have HJ0 := Lib.hid hj0; clear hj0
        go_wp2_with fail
        refine (key J _ (by omega) hsr).mono ?_
        rintro e w1 ⟨rfl, hs1⟩
        go_wp2_with fail
        refine (key2 J _ (by omega) hs1).mono ?_
        rintro e w2 ⟨⟨n, rfl⟩, hs2⟩
        go_wp2_with fail
        go_roundg (xs.length - (j + 1))
        case measure => omega
        case rel => exact ⟨j + 1, by omega, rfl, by go_num, by rw [HJ.out, if_pos HJ0.out, List.nil_append]; exact hs2⟩
      · have hw := writeByte_walk hsr hs 32 (by simp; omega)
        rw [show (((32 : UInt8).toNat : Nat) : Int) = 32 from rfl] at hw
        have hgt : (0 : Int) < (j : Int) := by omega
        go_wp2_with fail
        refine hw.mono ?_
        rintro e w0' ⟨rfl, hs0⟩
        rw [List.append_assoc] at hs0
        go_wp2_with fail
        refine (key (J ++ [32]) _ (by simp) hs0).mono ?_
        rintro e w1 ⟨rfl, hs1⟩
        go_wp2_with fail
        refine (key2 (J ++ [32]) _ (by simp) hs1).mono ?_
        rintro e w2 ⟨⟨n, rfl⟩, hs2⟩
        go_wp2_with fail
        go_roundg (xs.length - (j + 1))
        case measure => omega
        case rel => exact ⟨j + 1, by omega, rfl, by go_num, by rw [HJ.out, if_neg hj0]; rw [List.append_assoc] at hs2; exact hs2⟩
    · obtain rfl : j = xs.length := by omega
      have hl1 := hjl xs.length (Nat.le_refl _)
      have hw := writeByte_walk hsr hs 10 (by simp; omega)
      rw [show (((10 : UInt8).toNat : Nat) : Int) = 10 from rfl] at hw
      go_wp2_with fail
      refine hw.mono ?_
      rintro e w1 ⟨rfl, hs1⟩
      go_wp2_with fail
      go_end0
      rw [List.append_assoc] at hs1
      exact ⟨rfl, hs1⟩

/-- What lies below the builder. -/
theorem low_use {w0 w : World} {R : List HP} {B b : Nat} {bs : List UInt8} (h : SL.St w0 [BldB B b bs, Low B R] w) : SL.St w0 R w := by
  have h1 := SL.St.lowed h.drop
  rwa [List.append_nil] at h1
theorem ent_low {R : List HP} {B : Nat} {φ : World → Prop} (h : Ent R φ) : Ent [Low B R] φ := fun w0 w s => by
  have h1 := SL.St.lowed s
  rw [List.append_nil] at h1
  exact h.use h1
/-- A line of numbers that stand in a row just laid. -/
theorem line_lit (w0 w : World) (R : List HP) (B b c : Nat) (bs : List UInt8) (n : Nat) (cs : Array Value) (xs : List Nat) (hst : SL.St w0 [Blk c (.cells cs 32 (0, 0)), BldB B b bs, Low B R] w) (hn : n = xs.length) (hc : (cNat .u32).all xs = cs.toList) (ht : Ent R Tab) (hx : ∀ x ∈ xs, x < 4294967296) (hxl : xs.length ≤ 1000) (hlen : bs.length ≤ 100000000000000) :
    Calls Tryd.prog 40 #[.slice (some ⟨c, 0, none⟩) n n, .pointer (some ⟨b, 0, none⟩)] w fun e w' => e = .returned (.tuple #[]) ∧ SL.St w0 [BldB B b (bs ++ lineM xs), Low B R] w' := by
  refine (line_walk w0 _ [_, _] B b bs _ xs hst.swap ?_ ?_ (Ent.tail (ent_low ht)) hx hxl hlen).mono ?_
  · intro P hP
    rcases List.mem_cons.1 hP with rfl | hP
    · exact safe_blk (by decide)
    · rw [List.mem_singleton.1 hP]; exact safe_low (Nat.le_refl _)
  · intro w1 w2 s
    exact s.rd_blk (d := cNat .u32) (ys := xs) n n hn.symm hc (by unfold maxLen; omega)
  · rintro e w' ⟨rfl, h⟩
    exact ⟨rfl, h.sel [0] 1⟩

theorem flatMap_len {α : Type} {l : List α} {f : α → List UInt8} {c : Nat} (h : ∀ x ∈ l, (f x).length ≤ c) : (l.flatMap f).length ≤ c * l.length := by
  induction l with
  | nil => simp
  | cons x l ih =>
    have h1 := h x List.mem_cons_self
    have h2 := ih fun y hy => h y (List.mem_cons_of_mem _ hy)
    rw [List.flatMap_cons, List.length_append, List.length_cons, Nat.mul_succ]
    omega
theorem linesI_len {I : Nat} (hI : I ≤ 500000000) (j : Nat) (hj : j ≤ I) : (linesI j).length ≤ 22 * 500000000 := by
  have := flatMap_len (l := List.range j) (f := fun i => lineM [2 * (i + 1)]) (c := 22) (fun i hi => by
    have hij := List.mem_range.1 hi
    have := lineM_len (xs := [2 * (i + 1)]) (by simp; omega)
    simpa using this)
  unfold linesI
  simp only [List.length_range] at this
  omega
theorem linesR_len {V : List Nat} (hb : ∀ y ∈ V, y ≤ 1073741824) (l : List Nat) (hl : l.length ≤ 500000000) : (linesR V l).length ≤ 22 * 500000000 := by
  have := flatMap_len (l := l) (f := fun r => lineM [litV V r]) (c := 22) (fun r _ => by
    have h1 := litV_lt hb r
    have := lineM_len (xs := [litV V r]) (by simp; omega)
    simpa using this)
  unfold linesR
  omega
theorem getD_le {V : List Nat} {B : Nat} (hb : ∀ y ∈ V, y ≤ B) (n : Nat) : V.getD n 0 ≤ B := by
  rcases Nat.lt_or_ge n V.length with h | h
  · rw [show V.getD n 0 = V[n] by simp [List.getD_eq_getElem?_getD, h]]; exact hb _ (List.getElem_mem h)
  · rw [show V.getD n 0 = 0 by simp [List.getD_eq_getElem?_getD, h]]; exact Nat.zero_le _
theorem linesG_len {V : List Nat} (hb : ∀ y ∈ V, y ≤ 1073741824) (ns : Nodes) (l : List Nat) (hl : l.length ≤ 500000000) : (linesG ns V l).length ≤ 64 * 500000000 := by
  have := flatMap_len (l := l) (f := lineG ns V) (c := 64) (fun n _ => by
    have h0 := getD_le hb n
    have h1 := litV_lt hb (nd ns n).1
    have h2 := litV_lt hb (nd ns n).2
    show (lineM [2 * V.getD n 0, litV V (nd ns n).1, litV V (nd ns n).2]).length ≤ 64
    generalize V.getD n 0 = z at *
    have := lineM_len (xs := [2 * z, litV V (nd ns n).1, litV V (nd ns n).2]) (by simp; omega)
    simpa using this)
  unfold linesG
  omega
end Go.Proofs.YtjllogellpfpkaaDoor
