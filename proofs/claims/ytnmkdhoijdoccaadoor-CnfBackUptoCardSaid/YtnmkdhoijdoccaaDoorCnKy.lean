/- key: a set clause as a text. -/
import Derived.Test.YtnmkdhoijdoccaaDoorBld
import Derived.Lib.AppendIntMem
import Derived.Lib.BufferKept
import Derived.Lib.OwnKind
import Derived.Test.YtnmkdhoijdoccaaDoorCnI
import Derived.Test.YtnmkdhoijdoccaaDoorKySh
import Derived.Test.YtnmkdhoijdoccaaDoorCnT
/- A slice of bytes of the call's own, all of it above what was there: what the library's appending calls leave alone. -/
set_option linter.unusedVariables false
set_option linter.unusedSimpArgs false
namespace Go.Proofs.YtnmkdhoijdoccaaDoor.SL
open Go Go.RowKit Go.Lib

/-- A row of e's of the call's own, from block B on. -/
def Buf (e : TypeId) (B : Nat) (v : Value) (bs : List Value) : HP := fun h => bs.length = bs.length * 1 ∧ ((v = .slice none 0 0 ∧ bs.length = 0) ∨
  ∃ g cap cur, v = .slice (some ⟨g, 0, none⟩) bs.length cap ∧ B ≤ g ∧ h g = some (.cells cur e (0, 0)) ∧ bs.length ≤ cap ∧ cap ≤ maxLen ∧ cur.size = cap * 1 ∧ cur.toList.take (bs.length * 1) = bs)
section
variable {w0 w w' : World} {l : List HP} {e : TypeId} {B : Nat} {v v' : Value} {bs bs' : List Value}
theorem St.buf (h : St w0 (Buf e B v bs :: l) w) : w.ownsRow B e 1 v bs.length bs := by
  obtain ⟨k, ⟨h1, h2⟩, s⟩ := h.head
  refine ⟨h1, ?_⟩
  rcases h2 with h2 | ⟨g, cap, cur, hv, hB, hg, r⟩
  · exact .inl h2
  · exact .inr ⟨g, cap, cur, hv, hB, s _ _ hg, r⟩
theorem St.buf_nil (h : St w0 l w) (e : TypeId) (B : Nat) : St w0 (Buf e B (.slice none 0 0) [] :: l) w :=
  ⟨h.os, h.tape, h.output, h.size, fun _ => none, hl w, ⟨by simp, .inl ⟨rfl, rfl⟩⟩, h.sat, fun _ => .inl rfl, fun _ _ e => (nomatch e), Sub.refl _⟩
theorem St.bufd (h : St w0 (Buf e B v bs :: l) w) (hs : ∀ P ∈ l, Safe B e P) (h1 : w'.ownsRow B e 1 v' bs'.length bs') (h2 : Below B w w') (h3 : OthersKept e none w w') : St w0 (Buf e B v' bs' :: l) w' := by
  obtain ⟨k1, k2, p, q, d, s1, s2⟩ := h.sat
  obtain ⟨k3, a3, q3, g3⟩ := q.safe hs
  have hk3 : Sub k3 (hl w') := fun c o hc => by
    have hw : w.heap[c]? = some o := s2 c o (a3 c o hc)
    rcases g3 c o hc with hlt | hno
    · exact (h2.block c hlt).trans hw
    · exact h3 c o hw (by simp) hno
  refine ⟨h2.os.trans h.os, h2.tape.trans h.tape, h2.output.trans h.output, Nat.le_trans h.size h2.size, ?_⟩
  rcases h1.2 with ⟨hv, hl0⟩ | ⟨g, cap, cur, hv, hg, hgg, r⟩
  · exact ⟨fun _ => none, k3, ⟨h1.1, .inl ⟨hv, hl0⟩⟩, q3, fun _ => .inl rfl, fun _ _ e => (nomatch e), hk3⟩
  · have hg3 : k3 g = none := by
      cases hc : k3 g with
      | none => rfl
      | some o =>
        rcases g3 g o hc with hlt | hno
        · omega
        · have := hk3 g o hc
          rw [show hl w' g = w'.heap[g]? from rfl, hgg] at this
          exact absurd (Option.some.inj this).symm (hno _ _)
    refine ⟨fun c => if c = g then some (.cells cur e (0, 0)) else none, k3, ⟨h1.1, .inr ⟨g, cap, cur, hv, hg, by simp, r⟩⟩, q3, ?_, ?_, hk3⟩
    · intro c
      by_cases hc : c = g
      · subst hc; exact .inr hg3
      · left; simp [hc]
    · intro c o hc
      by_cases hcg : c = g
      · subst hcg; simp at hc; subst hc; exact hgg
      · simp [hcg] at hc
end
end Go.Proofs.YtnmkdhoijdoccaaDoor.SL
set_option linter.unusedVariables false
set_option linter.unusedSimpArgs false
namespace Go.Proofs.YtnmkdhoijdoccaaDoor
open Go Go.RowKit SL

/-- The library's table of powers of ten, as it is laid. -/
def Tab (w : World) : Prop := Lib.TabIs Tryd.prog w "internal/strconv.uint64pow10" .u64 Lib.pow10Tab
theorem infoU8 : (Tryd.prog.info? 5).map (fun i => (i.zero, i.size, i.bytes)) = some (some (.int .u8 0), 1, 1) := by kernel_rfl
theorem safe_old {W : World} {B : Nat} {e : TypeId} (h : W.heap.size ≤ B) : SL.Safe B e (Old W) := fun k p => ⟨k, Sub.refl _, p, fun c o hc => .inl (by
  unfold Old at p; subst p
  have := hl_lt hc; omega)⟩
theorem size_arr (l : List UInt8) : (⟨l.toArray⟩ : ByteArray).size = l.length := by simp [ByteArray.size]

set_option maxRecDepth 100000 in
set_option maxHeartbeats 4000000 in
theorem key_walk (W : World) (htab : Tab W) (v : Value) (c : List Int) (hr : Rd (cInt .i64) v c W) (hI : ∀ x ∈ c, I64 x) (hn : c.length ≤ 1048576) :
    Calls Tryd.prog 42 #[v] W fun e w' => e = .returned (.string ⟨(keyM c).toArray⟩) ∧ SL.St W [Old W] w' := by
  obtain ⟨i0, hi, hz0, hz1, hz2⟩ := info_parts infoU8
  have hr0 : Ent [Old W] (Rd (cInt .i64) v c) := old1 hr
  have hTB := Lib.tabBelow_of_tabIs htab
  obtain ⟨A, cc, rfl, hm, -⟩ := hr
  have hkl : ∀ j, j ≤ c.length → (keyM (c.take j)).length ≤ 22 * 1048576 := fun j hj => by
    have := keyM_len (c := c.take j) fun x hx => hI x (List.mem_of_mem_take hx)
    rw [List.length_take_of_le hj] at this; omega
  have hsf : ∀ P ∈ [Old W], SL.Safe W.heap.size 5 P := fun P hP => by rw [List.mem_singleton.1 hP]; exact safe_old (Nat.le_refl _)
  have hs0 := (SL.St.start W).buf_nil 5 W.heap.size
  go_enter Tryd.func42, Tryd.ntmps42
  go_wp2_with fail
  go_loopg [3, 8] c.length (fun k vb i wr => ∃ j : Nat, j ≤ c.length ∧ k = c.length - j ∧ i = .int .i64 j ∧ SL.St W [Buf 5 W.heap.size vb (Lib.byteCells (keyM (c.take j))), Old W] wr)
  case atStart => exact ⟨0, Nat.zero_le _, rfl, rfl, hs0⟩
  case round =>
    clear hs0
    obtain ⟨j, hj, hgk, rfl, hsr⟩ := hrel
    subst hgk
    have hk1 := hkl j hj
    by_cases hlt : j < c.length
    · obtain ⟨A', c', hv, -, hc⟩ := hr0.use hsr.drop
      obtain ⟨ad, hA', hcell⟩ := rd_at_int hc j hlt
      obtain rfl : A = some ad := by
        have : A' = A := by injection hv with h1; exact h1.symm
        rw [← this]; exact hA'
      have hxI := hI _ (List.getElem_mem hlt)
      have HK := Lib.hid (show keyM (c.take (j + 1)) = keyM (c.take j) ++ (Lib.itoa c[j] ++ [32]) by rw [List.take_succ_eq_append_getElem hlt, keyM_snoc])
      clear hc hv hA'
      generalize keyM (c.take j) = K at *
      generalize c[j] = x at *
      have hil := Lib.itoa_length_le x hxI.1 hxI.2
      have hbl : (Lib.byteCells K).length = K.length := Lib.byteCells_length K
      have hap := strconv_AppendInt_10 W.heap.size (Lib.byteCells K).length x hxI.1 hxI.2 _ (Lib.byteCells K) wr hsr.buf hsr.size (by rw [hbl]; omega) (hTB.on hsr.drop.old)
      go_wp2_with fail
      refine hap.mono ?_
      rintro e w1 ⟨v1, rfl, g1, g2, g3⟩
      have hs1 := hsr.bufd hsf (bs' := Lib.byteCells (K ++ Lib.itoa x)) (v' := v1) (by rw [Lib.byteCells_append, List.length_append, Lib.byteCells_length (Lib.itoa x)]; exact g1) g2 g3
      clear hap g1 g2 g3 hsr hcell
      have hsa := hs1.alloc (.cells #[.int .u8 32] 5)
      have ho2 := hsa.drop.buf
      have hc2 : ∀ (t : Nat) (u : Value), ([Value.int .u8 32] : List Value)[t]? = some u → (w1.alloc (.cells #[.int .u8 32] 5)).cell? ((⟨w1.heap.size, 0, none⟩ : Addr).add t) = some u := fun t u hu => by
        rcases t with _ | t
        · obtain rfl : Value.int .u8 32 = u := by simpa using hu
          simp [Addr.add]
        · simp at hu
      have hb2 : (Lib.byteCells (K ++ Lib.itoa x)).length = K.length + (Lib.itoa x).length := by rw [Lib.byteCells_length, List.length_append]
      have hsz := hsa.size
      go_wp2_with (at_builtin; go_loud (refine wpList_append_own _ rfl _ _ 76 rfl W.heap.size 5 i0 (.int .u8 0) 1 1 Tryd.underlying76 hi hz0 hz1 hz2 rfl (by decide) _ _ _ rfl ho2 ⟨w1.heap.size, 0, none⟩ 1 1 [.int .u8 32] rfl rfl hc2 (by intro u hu; rw [List.mem_singleton.1 hu]; rfl) (by rw [hb2]; unfold maxLen; omega) (by rw [hb2]; omega) hsz ?_); intro v2 w3 ho3 hgr _)
      have hs3 : SL.St W [Buf 5 W.heap.size v2 (Lib.byteCells (K ++ (Lib.itoa x ++ [32]))), Old W] w3 := by
        refine hsa.drop.bufd hsf ?_ ((Below.refl _ _).grown hgr hsz (fun k hk => (ho2.lt k hk).1)) ((Lib.OthersKept.refl _ _ _).grown hgr (Lib.ownsRow_kind ho2))
        have e : Lib.byteCells (K ++ (Lib.itoa x ++ [32])) = Lib.byteCells (K ++ Lib.itoa x) ++ [.int .u8 32] := by
          rw [← List.append_assoc, Lib.byteCells_append]; rfl
        rw [e, List.length_append]
        exact ho3
      go_wp2_with fail
      go_roundg (c.length - (j + 1))
      case measure => omega
      case rel => exact ⟨j + 1, by omega, rfl, by go_num, by rw [HK.out]; exact hs3⟩
    · obtain rfl : j = c.length := by omega
      rw [List.take_length] at hsr hk1
      have ho := hsr.buf
      have hlen : (Lib.byteCells (keyM c)).length = (keyM c).length := Lib.byteCells_length _
      generalize hKK : keyM c = K at *
      replace hKK := Lib.hid hKK
      rcases ho.2 with ⟨rfl, h0⟩ | ⟨g, cap, cur, rfl, _, hg, hcc, hcm, hcs, htk⟩
      · have hK0 : K = [] := List.eq_nil_of_length_eq_zero (by rw [← hlen]; exact h0)
        subst hK0
        have hcv : ∀ w2, (convert 76 9 (.slice none 0 0)).run Tryd.prog w2 = .ok (.string ⟨#[]⟩) w2 := fun w2 => by kernel_rfl
        go_wp2_with fail
        go_ret
        rw [hKK.out]
        exact ⟨rfl, hsr.drop⟩
      · have hcv : (convert 76 9 (.slice (some ⟨g, 0, none⟩) K.length cap)).run Tryd.prog wr = .ok (.string ⟨K.toArray⟩) wr := by
          have h := run_convert_bytes_back (P := Tryd.prog) wr 76 9 5 ⟨g, 0, none⟩ cap K Tryd.underlying76 Tryd.underlying5 Tryd.underlying9 (fun t ht => ho.cells (g := g) rfl t _ (by simp [Lib.byteCells, ht]))
          exact h
        go_wp2_with fail
        go_ret
        rw [hKK.out]
        exact ⟨rfl, hsr.drop⟩
end Go.Proofs.YtnmkdhoijdoccaaDoor
