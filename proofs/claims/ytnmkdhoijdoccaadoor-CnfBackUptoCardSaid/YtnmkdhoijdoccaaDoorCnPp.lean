/- The program's Print. -/
import Derived.Test.YtnmkdhoijdoccaaDoorCnPm
import Derived.Test.YtnmkdhoijdoccaaDoorCnPrB
import Derived.Test.YtnmkdhoijdoccaaDoorCnB
set_option linter.unusedVariables false
set_option linter.unusedSimpArgs false
namespace Go.Proofs.YtnmkdhoijdoccaaDoor
open Go Go.RowKit SL

/-- strconv.Itoa: nothing that was there turns. -/
theorem itoa_walk (w : World) (ht : Tab w) (n : Int) (hn : I64 n) :
    Calls Tryd.prog 41 #[.int .i64 n] w fun e w' => e = .returned (.string ⟨(Lib.itoa n).toArray⟩) ∧ Below w.heap.size w w' := by
  refine (strconv_Itoa n hn.1 hn.2 w ht).mono ?_
  rintro e w' ⟨rfl, k, os, rfl⟩
  exact ⟨rfl, Lib.below_grow w.heap.size w (Nat.le_refl _) k os⟩

set_option maxRecDepth 100000 in
set_option maxHeartbeats 8000000 in
theorem print_walk (W : World) (htab : Tab W) (n : Int) (hn : I64 n) (vf : Value) (cls : List (List Int)) (hr : Ent [Old W] (Rd2 (cInt .i64) vf cls)) (hI : ∀ c ∈ cls, ∀ x ∈ c, I64 x) :
    Calls Tryd.prog 22 #[.agg #[.int .i64 n, vf]] W fun e w' => e = .returned (.tuple #[.string ⟨(printM n cls).1.toArray⟩, .int .i64 (printM n cls).2]) ∧ SL.St W [Old W] w' := by
  obtain ⟨i0, hi, hz0, hz1, hz2⟩ := info_parts infoU8
  obtain ⟨A, c, rfl, hm, -⟩ := (hr.use (SL.St.start W)).at
  unfold maxLen at hm
  have h1 := (SL.St.start W).alloc (.cells #[.int .i64 n, .slice A cls.length c] 24)
  have cw := check_walk W _ _ h1 n hn (.slice A cls.length c) cls (Ent.tail hr) hI
  have hcv := checkM_vals n cls
  have hcok := @checkM_ok n cls
  have hU : printM n cls = if (checkM n cls).2 ≠ 0 then ([], (checkM n cls).2) else (headT n cls.length ++ bodyT cls, 0) := rfl
  generalize printM n cls = U at *
  generalize checkM n cls = C at *
  obtain ⟨place, er⟩ := C
  simp only at cw hcv hU hcok
  have HU := Lib.hid hU; clear hU
  obtain ⟨hc1, hc2⟩ := hcv
  have HR := Lib.hid hr
  have a0 := h1.cell 0
  have a1 := h1.cell 1
  clear hr
  go_enter Tryd.func22, Tryd.ntmps22
  go_wp2_with fail
  refine cw.mono ?_
  rintro e w1 ⟨rfl, h2⟩
  clear cw h1 a0 a1
  obtain ⟨B, hB⟩ : ∃ B, B = W.heap.size := ⟨_, rfl⟩
  have HB := Lib.hid hB
  rw [← hB] at h2 ⊢
  clear hB
  by_cases e0 : er = 0
  · subst e0
    obtain ⟨v1, v2, v3, hlits⟩ := hcok rfl
    have HU2 := Lib.hid (HU.out.trans (if_neg (by simp))); clear HU
    have hLL : ∀ x ∈ cls, x.length ≤ 1048576 ∧ ∀ y ∈ x, I64 y := fun x hx => ⟨by have := (hlits x hx).1; omega, hI x hx⟩
    have hbl := bodyT_len v3 hLL
    have hhl := headT_len hn v3
    clear hcok hlits
    have hBb : B ≤ w1.heap.size := by rw [HB.out]; exact h2.size
    have hb0 : SL.St W (BldB B w1.heap.size [] :: [Blk B (.cells #[.int .i64 n, .slice A cls.length c] 24 (0, 0)), Old W]) (w1.alloc (.cells #[.pointer none, .slice none 0 0] 78)) := (h2.alloc (.cells #[.pointer none, .slice none 0 0] 78)).bld_new hBb
    go_wp2_with fail
    generalize w1.heap.size = b at *
    generalize w1.alloc _ = w2 at hb0 ⊢
    clear h2
    have hsf : ∀ P ∈ [Blk B (.cells #[.int .i64 n, .slice A cls.length c] 24 (0, 0)), Old W], SL.Safe B 5 P := fun P hP => by
      rcases List.mem_cons.1 hP with rfl | hP
      · exact safe_blk (by decide)
      · rw [List.mem_singleton.1 hP]; exact safe_old (by rw [HB.out]; exact Nat.le_refl _)
    have ht : ∀ bs, Ent (BldB B b bs :: [Blk B (.cells #[.int .i64 n, .slice A cls.length c] 24 (0, 0)), Old W]) Tab := fun bs => Ent.tail (Ent.tail (SL.tab_old htab))
    obtain ⟨S, hS⟩ : ∃ S : World → Prop, S = fun w' => w'.cell? ⟨B, 0, none⟩ = some (.int .i64 n) ∧ w'.cell? ⟨B, 1, none⟩ = some (.slice A cls.length c) := ⟨_, rfl⟩
    have rk0 : ∀ w' : World, SL.Hd S w' → w'.cell? ⟨B, 0, none⟩ = some (.int .i64 n) := fun w' h => by unfold SL.Hd at h; rw [hS] at h; exact h.1
    have rk1 : ∀ w' : World, SL.Hd S w' → w'.cell? ⟨B, 1, none⟩ = some (.slice A cls.length c) := fun w' h => by unfold SL.Hd at h; rw [hS] at h; exact h.2
    have mkS : ∀ (w' : World), SL.St W (BldB B b [] :: [Blk B (.cells #[.int .i64 n, .slice A cls.length c] 24 (0, 0)), Old W]) w' → SL.Hd S w' := fun w' h => by unfold SL.Hd; rw [hS]; exact ⟨(h.pull 1).cell 0, (h.pull 1).cell 1⟩
    have h2d := hb0.drew
    have hx0 : SL.Hd S w2.drew := mkS _ h2d
    have HS := Lib.hid hS; clear hS hb0
    have D1 := fun w h => itoa_walk w h n hn
    have D2 := fun w h => itoa_walk w h (cls.length : Int) ⟨by omega, by omega⟩
    have l1 := Lib.itoa_length_le n hn.1 hn.2
    have l2 := Lib.itoa_length_le (cls.length : Int) (by omega) (by omega)
    have HH := Lib.hid (show headT n cls.length = [112, 32, 99, 110, 102, 32] ++ Lib.itoa n ++ [32] ++ Lib.itoa cls.length ++ [10] from rfl)
    generalize headT n cls.length = H at *
    generalize Lib.itoa n = N1 at *
    generalize Lib.itoa (cls.length : Int) = N2 at *
    have s1 : (9223372036854775807 < 6 + N1.length) = False := eq_false (by omega)
    have s2 : (9223372036854775807 < 6 + N1.length + 1) = False := eq_false (by omega)
    -- region 5 of cadence/cnf.Print: 0:fieldAddr 1:load 2:call fn 3:binOp 4:binOp 5:fieldAddr 6:load 7:call len 8:call fn 9:binOp 10:binOp 11:call fn
    refine wp_region_plan (SL.Hd S) [(0, 0), (1, 1), (5, 1), (6, 1), (7, 1), (2, 2), (3, 1), (4, 1), (8, 2)] 9 (by kernel_rfl) (by kernel_rfl) ?_
    iterate 1 (first | (refine plan_skip rfl rfl ?_; simp only [Act.put, List.setIfInBounds_toArray, List.set_cons_zero, List.set_cons_succ]) | (refine plan_pure (v := ?_) rfl rfl (fun _ => ?_) ?_; rotate_left; (focus (go_simp; try with_reducible rfl; done)); simp only [Act.put, List.setIfInBounds_toArray, List.set_cons_zero, List.set_cons_succ]))
    iterate 4 (first | (refine plan_held_skip rfl rfl (by assumption) ?_; simp only [Act.put, List.setIfInBounds_toArray, List.set_cons_zero, List.set_cons_succ]) | (refine plan_held (v := ?_) rfl rfl (fun _ hSw => ?_) (by assumption) ?_; rotate_left; (focus (go_simp; try with_reducible rfl; done)); simp only [Act.put, List.setIfInBounds_toArray, List.set_cons_zero, List.set_cons_succ]))
    ((refine plan_eff rfl (fun K hK => ?_)); go_simp; (refine (D1 _ ((ht []).use h2d)).mono ?_); (rintro e w7 ⟨rfl, hq7⟩); (have hs7 := h2d.below hq7); (have hy7 := mkS _ hs7); (refine hK _ _ ⟨hy7, ?_⟩); clear hK K)
    iterate 2 (first | (refine plan_held_skip rfl rfl (by assumption) ?_; simp only [Act.put, List.setIfInBounds_toArray, List.set_cons_zero, List.set_cons_succ]) | (refine plan_held (v := ?_) rfl rfl (fun _ hSw => ?_) (by assumption) ?_; rotate_left; (focus (go_simp; try with_reducible rfl; done)); simp only [Act.put, List.setIfInBounds_toArray, List.set_cons_zero, List.set_cons_succ]))
    ((refine plan_eff rfl (fun K hK => ?_)); go_simp; (refine (D2 _ ((ht []).use hs7)).mono ?_); (rintro e w8 ⟨rfl, hq8⟩); (have hs8 := hs7.below hq8); (have hy8 := mkS _ hs8); (refine hK _ _ ⟨hy8, ?_⟩); clear hK K)
    refine plan_end ?_
    simp only [List.drop]
    clear rk0 rk1 hx0 mkS D1 D2 h2d hs7 hy7 hy8 hq7 hq8 HS
    have hcat : ((((⟨#[112, 32, 99, 110, 102, 32]⟩ : ByteArray) ++ ⟨N1.toArray⟩) ++ ⟨#[32]⟩) ++ ⟨N2.toArray⟩) ++ ⟨#[10]⟩ = ⟨H.toArray⟩ := by
      rw [HH.out, show (⟨#[112, 32, 99, 110, 102, 32]⟩ : ByteArray) = ⟨([112, 32, 99, 110, 102, 32] : List UInt8).toArray⟩ from rfl, show (⟨#[32]⟩ : ByteArray) = ⟨([32] : List UInt8).toArray⟩ from rfl, show (⟨#[10]⟩ : ByteArray) = ⟨([10] : List UInt8).toArray⟩ from rfl]
      rw [app_text, app_text, app_text, app_text]
    replace hcat := Lib.hid hcat
    go_wp2_with fail
    rw [hcat.out]
    refine (writeString_walk hs8 hsf ⟨H.toArray⟩ (by rw [size_arr, List.length_nil]; omega)).mono ?_
    rintro e w9 ⟨rfl, hs9⟩
    replace hs9 : SL.St W (BldB B b H :: [Blk B (.cells #[.int .i64 n, .slice A cls.length c] 24 (0, 0)), Old W]) w9 := hs9
    clear hs8 s1 s2 l1 l2
    have g1 := (hs9.pull 1).cell 1
    go_wp2_with (refine NoPanic.normal ?_)
    clear g1
    go_loopg [32] cls.length (fun k i wr => ∃ j : Nat, j ≤ cls.length ∧ k = cls.length - j ∧ i = .int .i64 j ∧ SL.St W (BldB B b (H ++ bodyT (cls.take j)) :: [Blk B (.cells #[.int .i64 n, .slice A cls.length c] 24 (0, 0)), Old W]) wr)
    case atStart => exact ⟨0, Nat.zero_le _, rfl, rfl, by simpa [bodyT] using hs9⟩
    case round =>
      clear hs9
      obtain ⟨j, hj, hgk, rfl, hsr⟩ := hrel
      subst hgk
      have hb1 := hbl j hj
      by_cases hlt : j < cls.length
      · have HT := Lib.hid (bodyT_take hlt)
        obtain ⟨hx1, hx2⟩ := hLL _ (List.getElem_mem hlt)
        obtain ⟨A', c', hv', -, hcc⟩ := (HR.out.use hsr.drop.drop).at
        obtain rfl : A = A' := by injection hv'
        obtain ⟨ad, Bc, nc, cc, hA', hcell, hrc⟩ := hcc j _ (List.getElem?_eq_getElem hlt)
        subst hA'
        clear hcc hv'
        have HK := Lib.hid (show ∀ T, H ++ (bodyT (cls.take j) ++ T) = (H ++ bodyT (cls.take j)) ++ T from fun T => (List.append_assoc _ _ _).symm)
        have hKl : (H ++ bodyT (cls.take j)).length ≤ 25000000000060 := by rw [List.length_append]; omega
        generalize H ++ bodyT (cls.take j) = K at *
        have hkl := keyM_len (c := cls[j]) hx2
        generalize cls[j] = x at *
        have KW := key_walk wr ((ht K).use hsr) _ x hrc hx2 hx1
        obtain ⟨Bc', c2, hv, hxm, -⟩ := hrc
        obtain ⟨rfl, rfl, rfl⟩ : Bc = Bc' ∧ nc = x.length ∧ cc = c2 := by injection hv with h1 h2 h3; exact ⟨h1, h2, h3⟩
        clear hv
        have happ : (⟨(keyM x).toArray⟩ : ByteArray) ++ ⟨#[48, 10]⟩ = ⟨(clT x).toArray⟩ := app_text (keyM x) [48, 10]
        have hcl : (clT x).length = (keyM x).length + 2 := by unfold clT; simp
        replace happ := Lib.hid happ
        replace hcl := Lib.hid hcl
        generalize clT x = CT at *
        generalize keyM x = KX at *
        go_wp2_with fail
        refine KW.mono ?_
        rintro e w3 ⟨rfl, hq3⟩
        have hs3 := St.through (ps := []) hsr hq3
        clear KW hq3 hsr hcell
        go_wp2_with fail
        rw [happ.out]
        refine (writeString_walk hs3 hsf ⟨CT.toArray⟩ (by rw [size_arr, hcl.out]; omega)).mono ?_
        rintro e w4 ⟨rfl, hs4⟩
        replace hs4 : SL.St W (BldB B b (K ++ CT) :: _) w4 := hs4
        clear hs3
        go_wp2_with fail
        go_roundg (cls.length - (j + 1))
        case measure => omega
        case rel => exact ⟨j + 1, by omega, rfl, by go_num, by rw [HT.out, HK.out]; exact hs4⟩
      · obtain rfl : j = cls.length := by omega
        rw [List.take_length] at hsr hb1
        have hKne : H ++ bodyT cls ≠ [] := by rw [HH.out]; simp
        generalize H ++ bodyT cls = K at *
        have SW := string_walk hsr hsf hKne
        go_wp2_with fail
        refine SW.mono ?_
        rintro e w3 ⟨rfl, hs3⟩
        clear SW hsr
        go_wp2_with fail
        go_ret2
        exact ⟨by rw [HU2.out]; rfl, hs3.drop.drop⟩
  · have d0 : (er != 0) = true := by simp [e0]
    have HU2 := Lib.hid (HU.out.trans (if_pos e0)); clear HU e0 hcok
    go_wp2_with fail
    go_ret2
    exact ⟨by rw [HU2.out]; rfl, h2.drop⟩
end Go.Proofs.YtnmkdhoijdoccaaDoor
