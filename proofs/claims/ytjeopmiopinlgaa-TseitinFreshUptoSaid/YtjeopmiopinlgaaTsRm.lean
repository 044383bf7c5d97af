/- The reference's mark. -/
import Derived.Test.YtjeopmiopinlgaaTsV
import Derived.Test.YtjeopmiopinlgaaTsRc
set_option linter.unusedVariables false
set_option linter.unusedSimpArgs false
namespace Go.Proofs.Ytjeopmiopinlgaa
open Go Go.RowKit SL

def flipL (a y : Nat) : Nat := if y % 2 = 1 then notL a else a
def Child (ns : Nodes) (y c : Nat) : Prop := c = flipL (nd ns (y / 2)).1 y ∨ c = flipL (nd ns (y / 2)).2 y
theorem flipL_div (a y : Nat) : flipL a y / 2 = a / 2 := by unfold flipL; split; exact notL_div a; rfl
theorem wanted_child {ns : Nodes} {roots : List Nat} {y c : Nat} (h : Wanted ns roots y) (hn : y / 2 < ns.length) (hg : isGate ns (y / 2) = true) (hc : Child ns y c) : Wanted ns roots c := by
  unfold Child flipL at hc
  by_cases ho : y % 2 = 1
  · rw [if_pos ho, if_pos ho] at hc
    have e : y = 2 * (y / 2) + 1 := by omega
    rw [e] at h
    rcases hc with rfl | rfl
    · exact .na hn hg h
    · exact .nb hn hg h
  · rw [if_neg ho, if_neg ho] at hc
    have e : y = 2 * (y / 2) := by omega
    rw [e] at h
    rcases hc with rfl | rfl
    · exact .a hn hg h
    · exact .b hn hg h
/-- What a call of mark brings about. -/
structure Marked (ns : Nodes) (roots W : List Nat) (x : Nat) (W' : List Nat) : Prop where
  len : W'.length = W.length
  lt4 : ∀ y ∈ W', y < 4
  mono : ∀ y, hasL W y = true → hasL W' y = true
  self : hasL W' x = true
  good : ∀ y, hasL W' y = true → hasL W y = true ∨ Wanted ns roots y
  shut : ∀ y, hasL W' y = true → hasL W y = true ∨ (isGate ns (y / 2) = true → ∀ c, Child ns y c → hasL W' c = true)
theorem Marked.stop {ns : Nodes} {roots W : List Nat} {x : Nat} (h : hasL W x = true) (h4 : ∀ y ∈ W, y < 4) : Marked ns roots W x W :=
  ⟨rfl, h4, fun _ h => h, h, fun _ h => .inl h, fun _ h => .inl h⟩
theorem Marked.leaf {ns : Nodes} {roots W : List Nat} {x : Nat} (hx : x / 2 < W.length) (h4 : ∀ y ∈ W, y < 4) (hx2 : Wanted ns roots x) (hg : ¬ isGate ns (x / 2) = true) : Marked ns roots W x (markL W x) := by
  have hm := fun y => hasL_mark h4 hx y
  refine ⟨markL_length W x, markL_lt h4 x, fun y h => by rw [hm, h]; rfl, by rw [hm]; simp, fun y h => ?_, fun y h => ?_⟩
  · rw [hm, Bool.or_eq_true] at h
    rcases h with h | h
    · exact .inl h
    · rw [of_decide_eq_true h]; exact .inr hx2
  · rw [hm, Bool.or_eq_true] at h
    rcases h with h | h
    · exact .inl h
    · rw [of_decide_eq_true h]; exact .inr fun q => absurd q hg
theorem Marked.gate {ns : Nodes} {roots W W1 W2 : List Nat} {x : Nat} (hx : x / 2 < W.length) (h4 : ∀ y ∈ W, y < 4) (hx2 : Wanted ns roots x) (h1 : Marked ns roots (markL W x) (flipL (nd ns (x / 2)).1 x) W1) (h2 : Marked ns roots W1 (flipL (nd ns (x / 2)).2 x) W2) : Marked ns roots W x W2 := by
  have hm := fun y => hasL_mark h4 hx y
  refine ⟨by rw [h2.len, h1.len, markL_length], h2.lt4, fun y h => h2.mono _ (h1.mono _ (by rw [hm, h]; rfl)), h2.mono _ (h1.mono _ (by rw [hm]; simp)), fun y h => ?_, fun y h => ?_⟩
  · rcases h2.good y h with h | h
    · rcases h1.good y h with h | h
      · rw [hm, Bool.or_eq_true] at h
        rcases h with h | h
        · exact .inl h
        · rw [of_decide_eq_true h]; exact .inr hx2
      · exact .inr h
    · exact .inr h
  · rcases h2.shut y h with h | h
    · rcases h1.shut y h with h | h
      · rw [hm, Bool.or_eq_true] at h
        rcases h with h | h
        · exact .inl h
        · rw [of_decide_eq_true h]
          refine .inr fun _ c hc => ?_
          rcases hc with rfl | rfl
          · exact h2.mono _ h1.self
          · exact h2.self
      · exact .inr fun q c hc => h2.mono _ (h q c hc)
    · exact .inr h

theorem mb1 (b : Nat) (h : b < 4) : ((b : Int) % 2 != 0) = decide (b &&& 1 ≠ 0) := by
  rcases b with _ | _ | _ | _ | b <;> first | rfl | omega
theorem mb1' (b : Nat) (h : b < 4) : (Go.bits .and .i64 (b : Int) 1 != 0) = decide (b &&& 1 ≠ 0) := by
  rcases b with _ | _ | _ | _ | b <;> first | rfl | omega
theorem mb2' (b : Nat) (h : b < 4) : (Go.bits .and .i64 (b : Int) 2 != 0) = decide (b &&& 2 ≠ 0) := by
  rcases b with _ | _ | _ | _ | b <;> first | rfl | omega
theorem mo1 (b : Nat) (h : b < 4) : Go.bits .or .i64 (b : Int) 1 = ((b ||| 1 : Nat) : Int) := by
  rcases b with _ | _ | _ | _ | b <;> first | rfl | omega
theorem mo2 (b : Nat) (h : b < 4) : Go.bits .or .i64 (b : Int) 2 = ((b ||| 2 : Nat) : Int) := by
  rcases b with _ | _ | _ | _ | b <;> first | rfl | omega
theorem xor0_u32 {x : Nat} (h : x < 4294967296) : bits .xor .u32 (x : Int) 0 = (x : Int) := by
  have := u32_xor_nat x 0 h (by omega)
  rw [Nat.xor_zero] at this
  exact this

set_option maxRecDepth 100000 in
set_option maxHeartbeats 8000000 in
theorem rmark_walk (w0 : World) (l : List HP) (r N : Nat) (ns : Nodes) (hw : Wf ns) (hl : ns.length ≤ 1048577) (gs cw : Nat) (roots : List Nat) : ∀ (k x : Nat) (W : List Nat) (w : World), x / 2 < k → x / 2 < ns.length → W.length = ns.length → (∀ y ∈ W, y < 4) → Wanted ns roots x →
    SL.St w0 (Arr (cNat .i64) 3 (.slice (some ⟨gs, 0, none⟩) ns.length cw) W :: RGraph r (rnodes ns) N :: l) w →
    Calls Try.prog 46 #[.pointer (some ⟨r, 0, none⟩), .slice (some ⟨gs, 0, none⟩) ns.length cw, .int .u32 (x : Nat)] w fun e w' => e = .returned (.tuple #[]) ∧ ∃ W', Marked ns roots W x W' ∧ SL.St w0 (Arr (cNat .i64) 3 (.slice (some ⟨gs, 0, none⟩) ns.length cw) W' :: RGraph r (rnodes ns) N :: l) w' := by
  intro k
  induction k with
  | zero => intro x W w h; omega
  | succ k ih =>
  intro x W w hk hx hWl h4 hwx h
  have hxb : x < 4294967296 := by omega
  have hb4 := getD_lt4 h4 (x / 2)
  have hgd : W[x / 2]? = some (W.getD (x / 2) 0) := by rw [List.getD_eq_getElem?_getD, List.getElem?_eq_getElem (by omega)]; rfl
  obtain ⟨c0, c1⟩ := h.arr_cell1 rfl (x / 2) _ hgd _ rfl
  have hset := h.arr_set1 rfl (x / 2) (by omega) (W.getD (x / 2) 0 ||| (if x % 2 = 1 then 2 else 1)) _ rfl
  have hme : markL W x = W.set (x / 2) (W.getD (x / 2) 0 ||| (if x % 2 = 1 then 2 else 1)) := rfl
  rw [← hme] at hset
  have hhas : hasL W x = ((W.getD (x / 2) 0 &&& (if x % 2 = 1 then 2 else 1)) != 0) := rfl
  obtain ⟨vL, hR⟩ := St.rgraph (h.pull 1)
  obtain ⟨gL, cg, hv⟩ := (hR.pull 1).arr_form (by rw [rnodes_length]; omega)
  rw [rnodes_length] at hv
  subst hv
  have hxx := rnodes_get hx
  have g0 : w.cell? ⟨r, 0, none⟩ = some (.slice (some ⟨gL, 0, none⟩) ns.length cg) := hR.cell 0
  have n0 := ((hR.pull 1).arr_cell _ _ hxx 0 _ rfl).1
  have n1 := ((hR.pull 1).arr_cell _ _ hxx 1 _ rfl).1
  have ne1 : gs ≠ r := hR.apart2 2 0 rfl claims_arr claims_blk
  have ne2 : gs ≠ gL := hR.apart2 2 1 rfl claims_arr claims_arr
  simp only [cNode, Nat.add_zero] at n0 n1
  clear hR hxx
  have hleaf : ¬ isGate ns (x / 2) = true → Marked ns roots W x (markL W x) := Marked.leaf (by omega) h4 hwx
  have hstop : hasL W x = true → Marked ns roots W x W := fun q => Marked.stop q h4
  have hgate : isGate ns (x / 2) = true → nodeM ns (x / 2) = (2, nd ns (x / 2)) ∧ (nd ns (x / 2)).1 / 2 < x / 2 ∧ (nd ns (x / 2)).2 / 2 < x / 2 := fun hg => ⟨nodeM_gate hg, (hw.2 _ hx hg).1, (hw.2 _ hx hg).2⟩
  have hmk : ∀ W1 W2, isGate ns (x / 2) = true → Marked ns roots (markL W x) (flipL (nd ns (x / 2)).1 x) W1 → Marked ns roots W1 (flipL (nd ns (x / 2)).2 x) W2 → Marked ns roots W x W2 := fun W1 W2 _ => Marked.gate (by omega) h4 hwx
  have hwc : ∀ c, isGate ns (x / 2) = true → Child ns x c → Wanted ns roots c := fun c hg hc => wanted_child hwx hx hg hc
  have hnot : ¬ isGate ns (x / 2) = true → (((nodeM ns (x / 2)).1 : Int) == 2) = false := fun hg => by
    have := nodeM_not (ns := ns) (n := x / 2) (by simpa using hg)
    simp; omega
  have hl2 := markL_length W x
  have h42 := markL_lt h4 x
  have hq : ((x : Nat) : Int) / 2 = ((x / 2 : Nat) : Int) := by omega
  have hfl : ∀ a, flipL a x = if x % 2 = 1 then notL a else a := fun a => rfl
  have hch : ∀ c, Child ns x c ↔ (c = flipL (nd ns (x / 2)).1 x ∨ c = flipL (nd ns (x / 2)).2 x) := fun c => Iff.rfl
  generalize W.getD (x / 2) 0 = b at *
  generalize markL W x = WM at *
  generalize hn : x / 2 = n at *
  have HN := Lib.hid hn; clear hn
  have HCH := Lib.hid hch; clear hch
  have HL := Lib.hid hleaf; have HS := Lib.hid hstop; have HG := Lib.hid hgate; have HMK := Lib.hid hmk; have HWC := Lib.hid hwc; have HNT := Lib.hid hnot; have HWL := Lib.hid hWl; have HL2 := Lib.hid hl2; have H4 := Lib.hid h4; have H42 := Lib.hid h42; have HFL := Lib.hid hfl; have HSET := Lib.hid hset
  have IH := Lib.hid ih
  clear hleaf hstop hgate hmk hwc hnot hWl hl2 h4 h42 hfl hset ih hgd hme hwx
  by_cases ho : x % 2 = 1
  · have hm1 : bits .and .u32 (x : Int) 1 = 1 := by
      have e := u32_and_nat x 1 hxb (by omega)
      rw [Nat.and_one_is_mod, show x % 2 = 1 by omega] at e
      exact e
    have hm2 : (bits .and .i64 (b : Int) 2 != 0) = decide (b &&& 2 ≠ 0) := mb2' b hb4
    rw [if_pos ho] at hhas
    have hf2 : ∀ a, flipL a x = notL a := fun a => by rw [HFL.out, if_pos ho]
    have HF := Lib.hid hf2; clear hf2
    have hor : bits .or .i64 (b : Int) 2 = ((b ||| 2 : Nat) : Int) := mo2 b hb4
    have hset := HSET.out
    rw [if_pos ho] at hset
    clear ho
    by_cases hb : b &&& 2 ≠ 0
    · rw [decide_eq_true hb] at hm2
      have hsl : hasL W x = true := by rw [hhas]; simpa using hb
      have HSL := Lib.hid (HS.out hsl)
      clear hsl hhas hb hset
      go_enter Try.func46, Try.ntmps46
      go_wp2_with fail
      refine bodyPost_ret (results_none rfl _ _ _) rfl ?_
      exact ⟨rfl, _, HSL.out, h⟩
    · rw [decide_eq_false hb] at hm2
      clear hhas hb
      have HSET2 := Lib.hid hset
      clear hset
      by_cases hg : isGate ns n = true
      · obtain ⟨eM, hA, hB⟩ := HG.out hg
        have HMK2 := Lib.hid (fun W1 W2 => HMK.out W1 W2 hg)
        have wa := HWC.out _ hg ((HCH.out _).2 (.inl rfl))
        have wb := HWC.out _ hg ((HCH.out _).2 (.inr rfl))
        have ea : bits .xor .u32 ((nd ns n).1 : Nat) 1 = ((flipL (nd ns n).1 x : Nat) : Int) := by rw [HF.out]; exact xor_walk (w := w) (by omega)
        have eb : bits .xor .u32 ((nd ns n).2 : Nat) 1 = ((flipL (nd ns n).2 x : Nat) : Int) := by rw [HF.out]; exact xor_walk (w := w) (by omega)
        have ia : ∀ w2, _ → _ := fun w2 h2 => IH.out (flipL (nd ns n).1 x) WM w2 (by rw [flipL_div]; omega) (by rw [flipL_div]; omega) (HL2.out.trans HWL.out) H42.out wa h2
        have ib : ∀ (W1 : List Nat) (w2 : World), W1.length = ns.length → (∀ y ∈ W1, y < 4) → _ → _ := fun W1 w2 q1 q2 h2 => IH.out (flipL (nd ns n).2 x) W1 w2 (by rw [flipL_div]; omega) (by rw [flipL_div]; omega) q1 q2 wb h2
        rw [eM] at n0 n1
        have HEM := Lib.hid eM
        have HNZ := Lib.hid hw.1
        clear hg wa wb HG HWC HNT HCH HL HS IH HF HFL eM hA hB
        generalize flipL (nd ns n).1 x = ca at *
        generalize flipL (nd ns n).2 x = cb at *
        generalize nd ns n = AB at *
        obtain ⟨A, B⟩ := AB
        simp only at n0 n1 ea eb
        have HIA := Lib.hid ia; have HIB := Lib.hid ib; clear ia ib
        go_enter Try.func46, Try.ntmps46
        go_wp2_with fail
        refine (HIA.out _ HSET2.out).mono ?_
        rintro e w3 ⟨rfl, W1, hM1, h3⟩
        clear n0 n1 g0 c0 c1 h
        obtain ⟨gL2, cg2, g02, -, gr2⟩ := rg_read (h3.pull 1) (by have := HNZ.out; omega)
        obtain ⟨m0, m1, m2⟩ := gr2 n hx
        clear gr2
        rw [HEM.out] at m0 m1 m2
        simp only at m0 m1 m2
        go_wp2_with fail
        refine (HIB.out _ _ (by rw [hM1.len, HL2.out, HWL.out]) hM1.lt4 h3).mono ?_
        rintro e w4 ⟨rfl, W2, hM2, h4⟩
        go_wp2_with fail
        go_end0
        exact ⟨rfl, _, HMK2.out _ _ hM1 hM2, h4⟩
      · generalize nodeM ns n = M at *
        have hnt := HNT.out hg
        have HLF := Lib.hid (HL.out hg)
        clear hg
        obtain ⟨M1, A, B⟩ := M
        simp only at hnt n0 n1
        go_enter Try.func46, Try.ntmps46
        go_wp2_with fail
        go_end0
        exact ⟨rfl, _, HLF.out, HSET2.out⟩
  · have hm1 : bits .and .u32 (x : Int) 1 = 0 := by
      have e := u32_and_nat x 1 hxb (by omega)
      rw [Nat.and_one_is_mod, show x % 2 = 0 by omega] at e
      exact e
    have hm2 : (bits .and .i64 (b : Int) 1 != 0) = decide (b &&& 1 ≠ 0) := mb1' b hb4
    have hm3 : ((b : Int) % 2 != 0) = decide (b &&& 1 ≠ 0) := mb1 b hb4
    rw [if_neg ho] at hhas
    have hf2 : ∀ a, flipL a x = a := fun a => by rw [HFL.out, if_neg ho]
    have HF := Lib.hid hf2; clear hf2
    have hor : bits .or .i64 (b : Int) 1 = ((b ||| 1 : Nat) : Int) := mo1 b hb4
    have hset := HSET.out
    rw [if_neg ho] at hset
    clear ho
    by_cases hb : b &&& 1 ≠ 0
    · rw [decide_eq_true hb] at hm2 hm3
      have hsl : hasL W x = true := by rw [hhas]; simpa using hb
      have HSL := Lib.hid (HS.out hsl)
      clear hsl hhas hb hset
      go_enter Try.func46, Try.ntmps46
      go_wp2_with fail
      refine bodyPost_ret (results_none rfl _ _ _) rfl ?_
      exact ⟨rfl, _, HSL.out, h⟩
    · rw [decide_eq_false hb] at hm2 hm3
      clear hhas hb
      have HSET2 := Lib.hid hset
      clear hset
      by_cases hg : isGate ns n = true
      · obtain ⟨eM, hA, hB⟩ := HG.out hg
        have HMK2 := Lib.hid (fun W1 W2 => HMK.out W1 W2 hg)
        have wa := HWC.out _ hg ((HCH.out _).2 (.inl rfl))
        have wb := HWC.out _ hg ((HCH.out _).2 (.inr rfl))
        have ea : bits .xor .u32 ((nd ns n).1 : Nat) 0 = ((flipL (nd ns n).1 x : Nat) : Int) := by rw [HF.out]; exact xor0_u32 (by omega)
        have eb : bits .xor .u32 ((nd ns n).2 : Nat) 0 = ((flipL (nd ns n).2 x : Nat) : Int) := by rw [HF.out]; exact xor0_u32 (by omega)
        have ia : ∀ w2, _ → _ := fun w2 h2 => IH.out (flipL (nd ns n).1 x) WM w2 (by rw [flipL_div]; omega) (by rw [flipL_div]; omega) (HL2.out.trans HWL.out) H42.out wa h2
        have ib : ∀ (W1 : List Nat) (w2 : World), W1.length = ns.length → (∀ y ∈ W1, y < 4) → _ → _ := fun W1 w2 q1 q2 h2 => IH.out (flipL (nd ns n).2 x) W1 w2 (by rw [flipL_div]; omega) (by rw [flipL_div]; omega) q1 q2 wb h2
        rw [eM] at n0 n1
        have HEM := Lib.hid eM
        have HNZ := Lib.hid hw.1
        clear hg wa wb HG HWC HNT HCH HL HS IH HF HFL eM hA hB
        generalize flipL (nd ns n).1 x = ca at *
        generalize flipL (nd ns n).2 x = cb at *
        generalize nd ns n = AB at *
        obtain ⟨A, B⟩ := AB
        simp only at n0 n1 ea eb
        have HIA := Lib.hid ia; have HIB := Lib.hid ib; clear ia ib
        go_enter Try.func46, Try.ntmps46
        go_wp2_with fail
        refine (HIA.out _ HSET2.out).mono ?_
        rintro e w3 ⟨rfl, W1, hM1, h3⟩
        clear n0 n1 g0 c0 c1 h
        obtain ⟨gL2, cg2, g02, -, gr2⟩ := rg_read (h3.pull 1) (by have := HNZ.out; omega)
        obtain ⟨m0, m1, m2⟩ := gr2 n hx
        clear gr2
        rw [HEM.out] at m0 m1 m2
        simp only at m0 m1 m2
        go_wp2_with fail
        refine (HIB.out _ _ (by rw [hM1.len, HL2.out, HWL.out]) hM1.lt4 h3).mono ?_
        rintro e w4 ⟨rfl, W2, hM2, h4⟩
        go_wp2_with fail
        go_end0
        exact ⟨rfl, _, HMK2.out _ _ hM1 hM2, h4⟩
      · generalize nodeM ns n = M at *
        have hnt := HNT.out hg
        have HLF := Lib.hid (HL.out hg)
        clear hg
        obtain ⟨M1, A, B⟩ := M
        simp only at hnt n0 n1
        go_enter Try.func46, Try.ntmps46
        go_wp2_with fail
        go_end0
        exact ⟨rfl, _, HLF.out, HSET2.out⟩
end Go.Proofs.Ytjeopmiopinlgaa
