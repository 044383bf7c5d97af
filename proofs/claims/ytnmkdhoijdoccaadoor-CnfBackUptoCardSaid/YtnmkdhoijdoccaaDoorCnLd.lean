/- Formulas lent: lend, whole. -/
import Derived.Test.YtnmkdhoijdoccaaDoorCnLn
set_option linter.unusedVariables false
set_option linter.unusedSimpArgs false
namespace Go.Proofs.YtnmkdhoijdoccaaDoor
open Go Go.RowKit SL

def InnL : List Slc → List (List Int) → List HP
  | s :: ss, c :: cs => LentC s.val c :: InnL ss cs
  | _, _ => []
theorem InnL.snoc (s : Slc) (x : List Int) : ∀ (ss : List Slc) (xs : List (List Int)), ss.length = xs.length → InnL (ss ++ [s]) (xs ++ [x]) = InnL ss xs ++ [LentC s.val x]
  | [], [], _ => rfl
  | [], _ :: _, h => by simp at h
  | _ :: _, [], h => by simp at h
  | s' :: ss, y :: xs, h => by simp only [List.cons_append, InnL]; rw [InnL.snoc s x ss xs (by simpa using h)]
theorem InnL.at : ∀ (ss : List Slc) (xs : List (List Int)) {l : List HP} {w0 w : World}, SL.St w0 (InnL ss xs ++ l) w → ∀ (i : Nat) (s : Slc) (x : List Int), ss[i]? = some s → xs[i]? = some x → ∃ l', SL.St w0 (LentC s.val x :: l') w
  | [], _, _, _, _, _, i, s, x, hs, _ => by simp at hs
  | _ :: _, [], _, _, _, _, i, s, x, _, hx => by simp at hx
  | s' :: ss, y :: xs, l, w0, w, h, 0, s, x, hs, hx => by
    simp only [List.getElem?_cons_zero, Option.some.injEq] at hs hx
    subst hs; subst hx
    exact ⟨InnL ss xs ++ l, h⟩
  | s' :: ss, y :: xs, l, w0, w, h, i + 1, s, x, hs, hx => by
    simp only [List.getElem?_cons_succ] at hs hx
    exact InnL.at ss xs (SL.St.drop (l := InnL ss xs ++ l) h) i s x hs hx
/-- A formula likewise. -/
def LentF (v : Value) (cls : List (List Int)) : HP := fun k => ∃ (q : List Slc × Slc × Nat × Nat), (q.1.length = cls.length ∧ v = .slice (some ⟨q.2.2.1, 0, none⟩) cls.length q.2.2.2) ∧
  All (Arr cSlc 51 (.slice (some ⟨q.2.2.1, 0, none⟩) (cls.length + 1) q.2.2.2) (q.1 ++ [q.2.1]) :: Arr (cInt .i64) 3 q.2.1.val [55555] :: InnL q.1 cls) k
theorem St.lentF {w0 w : World} {l : List HP} {v : Value} {cls : List (List Int)} (h : SL.St w0 (LentF v cls :: l) w) : ∃ (ss : List Slc) (z : Slc) (g c : Nat), ss.length = cls.length ∧ v = .slice (some ⟨g, 0, none⟩) cls.length c ∧
    SL.St w0 (Arr cSlc 51 (.slice (some ⟨g, 0, none⟩) (cls.length + 1) c) (ss ++ [z]) :: Arr (cInt .i64) 3 z.val [55555] :: (InnL ss cls ++ l)) w := by
  obtain ⟨q, h⟩ := SL.St.ex h
  obtain ⟨⟨e1, e2⟩, h⟩ := SL.St.pure h
  exact ⟨q.1, q.2.1, q.2.2.1, q.2.2.2, e1, e2, SL.St.flat h⟩
theorem St.mkLentF {w0 w : World} {l : List HP} {cls : List (List Int)} {ss : List Slc} {z : Slc} {g c : Nat} (hs : ss.length = cls.length)
    (h : SL.St w0 (Arr cSlc 51 (.slice (some ⟨g, 0, none⟩) (cls.length + 1) c) (ss ++ [z]) :: Arr (cInt .i64) 3 z.val [55555] :: (InnL ss cls ++ l)) w) : SL.St w0 (LentF (.slice (some ⟨g, 0, none⟩) cls.length c) cls :: l) w :=
  (SL.St.fold (l := _ :: _ :: InnL ss cls) h).imp fun k p => ⟨(ss, z, g, c), ⟨hs, rfl⟩, p⟩
theorem Ent.lentF {l : List HP} {v : Value} {cls : List (List Int)} : Ent (LentF v cls :: l) (Rd2 (cInt .i64) v cls) := fun w0 w h => by
  obtain ⟨ss, z, g, c, hl, rfl, h2⟩ := St.lentF h
  refine ⟨ss, hl, ?_, fun i s x hs hx => ?_⟩
  · have := Rd.take h2.rd ss.length (by rw [hl]; omega)
    rw [List.take_left, hl] at this
    exact this
  · obtain ⟨l', h3⟩ := InnL.at ss cls (SL.St.drop (l := InnL ss cls ++ l) h2.drop) i s x hs hx
    exact Ent.lent _ _ h3

set_option maxRecDepth 100000 in
set_option maxHeartbeats 8000000 in
theorem lend_walk (w0 w : World) (l : List HP) (h : SL.St w0 l w) (vars : Int) (vf : Value) (cls : List (List Int)) (hr : Ent l (Rd2 (cInt .i64) vf cls)) (hlen : cls.length ≤ 1048576) (hlc : ∀ c ∈ cls, c.length ≤ 1048576) :
    Calls Tryd.prog 10 #[.agg #[.int .i64 vars, vf]] w fun e w' => ∃ v', e = .returned (.agg #[.int .i64 vars, v']) ∧ SL.St w0 (LentF v' cls :: l) w' := by
  obtain ⟨A, c, rfl, hm, -⟩ := (hr.use h).at
  unfold maxLen at hm
  have h1 := (h.alloc (.cells #[.int .i64 vars, .slice A cls.length c] 24)).alloc (.cells #[.int .i64 0, .slice none 0 0] 24)
  simp only [World.size_alloc] at h1
  have hmk := run_make_cap (P := Tryd.prog) 22 51 (.slice none 0 0) 24 Tryd.underlying22 infoClause rfl .i64 .i64 (cls.length + 1) ((cls.length : Int) + 1) (by omega) (by omega) (by omega)
  have h2 := (h1.alloc (.cells (madeCells #[Value.slice none 0 0] (cls.length + 1)) 51)).arr_empty (d := cSlc) rfl (by unfold maxLen; omega)
  simp only [World.size_alloc] at h2
  clear h h1
  go_enter Tryd.func10, Tryd.ntmps10
  go_wp2_with fail
  generalize w.heap.size = B at *
  generalize World.alloc (World.alloc (World.alloc w _) _) _ = w1 at h2 ⊢
  clear hmk
  have HR := Lib.hid hr; clear hr
  go_loopg [3, 4] cls.length (fun k vl i wr => ∃ (j : Nat) (ss : List Slc), j ≤ cls.length ∧ k = cls.length - j ∧ i = .int .i64 j ∧ ss.length = j ∧ SL.St w0 (Arr cSlc 51 vl ss :: Blk (B + 1) (.cells #[.int .i64 0, .slice none 0 0] 24 (0, 0)) :: Blk B (.cells #[.int .i64 vars, .slice A cls.length c] 24 (0, 0)) :: (InnL ss (cls.take j) ++ l)) wr)
  case atStart => exact ⟨0, [], Nat.zero_le _, rfl, rfl, rfl, h2⟩
  case round =>
    clear h2
    obtain ⟨j, ss, hj, hgk, rfl, hsl, hsr⟩ := hrel
    subst hgk
    have HSL := Lib.hid hsl; clear hsl
    have f1 : World.cell? _ ⟨B, 1, none⟩ = some (.slice A cls.length c) := (hsr.pull 2).cell 1
    by_cases hlt : j < cls.length
    · obtain ⟨A', c', hv, -, hcc⟩ := (HR.out.use (SL.St.dropL hsr.drop.drop.drop)).at
      obtain rfl : A = A' := by injection hv
      obtain ⟨ad, Bc, nc, cc, hA', hcell, hrc⟩ := hcc j _ (List.getElem?_eq_getElem hlt)
      subst hA'
      clear hcc hv
      have HT := Lib.hid (show cls.take (j + 1) = cls.take j ++ [cls[j]] by rw [List.take_succ_eq_append_getElem hlt])
      have hlj := hlc _ (List.getElem_mem hlt)
      generalize cls[j] = x at *
      have LW := lent_at _ _ x hrc hlj
      go_wp2_with fail
      refine LW.mono ?_
      rintro e w2 ⟨sB, sm, sc, rfl, hp⟩
      have h3 := hp _ _ hsr
      clear hp LW hsr f1 hcell hrc
      have h4 := (h3.alloc (.cells #[.slice sB sm sc] 51)).sel [2, 0, 1]
      have HSB := Lib.hid (show ss.length ≤ 1048576 by rw [HSL.out]; omega)
      go_wp2_with (at_builtin; go_loud (refine wpList_app rfl _ _ rfl Tryd.underlying22 infoClause rfl h4 rfl (ys := ([(sB, sm, sc)] : List Slc)) rfl ((h4.pull 1).rd_blk (d := cSlc) (ys := ([(sB, sm, sc)] : List Slc)) 1 1 rfl rfl (by decide)) (by have := HSB.out; simp; omega) (by have := HSB.out; simp; omega) ?_); go_loud (intro vo' w7 h7))
      go_roundg (cls.length - (j + 1))
      case measure => omega
      case rel =>
        refine ⟨j + 1, ss ++ [(sB, sm, sc)], by omega, rfl, by go_num, by simp [HSL.out], ?_⟩
        rw [HT.out, InnL.snoc (sB, sm, sc) x ss _ (by rw [HSL.out, List.length_take]; omega), List.append_assoc]
        refine SL.St.perm ?_ (h7.sel [0, 3, 4, 2] 1)
        refine (List.Perm.cons _ (List.Perm.cons _ (List.Perm.cons _ ?_)))
        exact List.perm_middle.symm
    · obtain rfl : j = cls.length := by omega
      rw [List.take_length] at hsr
      have h4 := ((hsr.alloc (.cells #[.int .i64 55555] 3)).alloc (.cells #[.slice (some ⟨wr.heap.size, 0, none⟩) 1 1] 51)).sel [2, 0, 1]
      simp only [World.size_alloc] at h4
      have HSB := Lib.hid (show ss.length ≤ 1048576 by rw [HSL.out]; omega)
      go_wp2_with (at_builtin; go_loud (refine wpList_app rfl _ _ rfl Tryd.underlying22 infoClause rfl h4 rfl (ys := ([(some (⟨wr.heap.size, 0, none⟩ : Addr), 1, 1)] : List Slc)) rfl ((h4.pull 1).rd_blk (d := cSlc) (ys := ([(some (⟨wr.heap.size, 0, none⟩ : Addr), 1, 1)] : List Slc)) 1 1 rfl rfl (by decide)) (by have := HSB.out; simp; omega) (by have := HSB.out; simp; omega) ?_); go_loud (intro vo' w7 h7); go_loud (obtain ⟨g3, c3, rfl⟩ := h7.arr_form (by simp)); go_loud (obtain ⟨q0, q1, q2⟩ := h7.arr_lt))
      simp only [List.length_append, List.length_singleton] at h7 q1
      rw [HSL.out] at h7 q1
      have g0 : w7.cell? ⟨B, 0, none⟩ = some (.int .i64 vars) := (h7.pull 4).cell 0
      have g1 : w7.cell? ⟨B, 1, none⟩ = some (.slice A cls.length c) := (h7.pull 4).cell 1
      have e0 := (h7.pull 3).cell 0
      have e1 := (h7.pull 3).cell 1
      have e2 := (h7.pull 3).free 0
      have e3 := (h7.pull 3).free 1
      have hs := (((h7.pull 3).set 0 (.int .i64 vars)).set 1 (.slice (some ⟨g3, 0, none⟩) cls.length c3))
      have q5 : cls.length ≤ c3 := by omega
      have q3 := Ext.rule g0
      have q4 := Ext.rule g1
      -- region 7 of cadence/cadencelaw02.lend: 0:fieldAddr 1:load 2:move 3:fieldAddr 4:load 5:call len 6:slice 7:build 8:store
      refine wp_region_plan (Ext w7) [(0, 0), (1, 1), (2, 1), (3, 1), (4, 1), (5, 1), (6, 1)] 7 (by kernel_rfl) (by kernel_rfl) ?_
      have hx0 : Ext w7 w7.drew := Ext.refl w7
      iterate 1 (first | (refine plan_skip rfl rfl ?_; simp only [Act.put, List.setIfInBounds_toArray, List.set_cons_zero, List.set_cons_succ]) | (refine plan_pure (v := ?_) rfl rfl (fun _ => ?_) ?_; rotate_left; (focus (go_simp; try with_reducible rfl; done)); simp only [Act.put, List.setIfInBounds_toArray, List.set_cons_zero, List.set_cons_succ]))
      iterate 6 (first | (refine plan_held_skip rfl rfl (by assumption) ?_; simp only [Act.put, List.setIfInBounds_toArray, List.set_cons_zero, List.set_cons_succ]) | (refine plan_held (v := ?_) rfl rfl (fun _ hSw => ?_) (by assumption) ?_; rotate_left; (focus (go_simp; try with_reducible rfl; done)); simp only [Act.put, List.setIfInBounds_toArray, List.set_cons_zero, List.set_cons_succ]))
      refine plan_end ?_
      simp only [List.drop]
      clear q3 q4 hx0
      go_wp2_with (first | (refine NoPanic.normal ?_))
      have hz := hs.drew
      generalize World.drew _ = wz at hz ⊢
      have b0 := hz.cell 0
      have b1 := hz.cell 1
      refine bodyPost_ret (v := .agg #[.int .i64 vars, .slice (some ⟨g3, 0, none⟩) cls.length c3]) (by simp [results, Tryd.results10, go_sem, b0, b1]) rfl ⟨_, rfl, ?_⟩
      exact St.mkLentF (z := (some (⟨wr.heap.size, 0, none⟩ : Addr), 1, 1)) HSL.out (SL.St.sel ((hz.sel [3, 1] 3).arr_lit (d := cInt .i64) (n := 1) (xs := [55555]) rfl rfl (by decide)) [1, 0])

/-- A lent formula, as a reading. -/
def RdLF (v : Value) (cls : List (List Int)) (w : World) : Prop := ∃ (ss : List Slc) (z : Slc) (g c : Nat), ss.length = cls.length ∧ v = .slice (some ⟨g, 0, none⟩) cls.length c ∧ cls.length + 1 ≤ c ∧ c ≤ maxLen ∧
  Rd cSlc (.slice (some ⟨g, 0, none⟩) (cls.length + 1) c) (ss ++ [z]) w ∧ Rd (cInt .i64) z.val [55555] w ∧ ∀ (i : Nat) (s : Slc) (x : List Int), ss[i]? = some s → cls[i]? = some x → RdLC s.val x w
theorem RdLF.mono {v : Value} {cls : List (List Int)} {w w' : World} (h : RdLF v cls w) (k : ∀ a u, w.cell? a = some u → w'.cell? a = some u) : RdLF v cls w' := by
  obtain ⟨ss, z, g, c, e0, e, h1, h2, h3, h4, h5⟩ := h
  exact ⟨ss, z, g, c, e0, e, h1, h2, h3.mono k, h4.mono k, fun i s x hs hx => RdLC.mono (h5 i s x hs hx) k⟩
theorem St.rdLF {w0 w : World} {l : List HP} {v : Value} {cls : List (List Int)} (h : SL.St w0 (LentF v cls :: l) w) : RdLF v cls w := by
  obtain ⟨ss, z, g, c, hl, rfl, h2⟩ := St.lentF h
  obtain ⟨-, q1, q2⟩ := h2.arr_lt
  refine ⟨ss, z, g, c, hl, rfl, q1, q2, h2.rd, (h2.pull 1).rd, fun i s x hs hx => ?_⟩
  obtain ⟨l', h3⟩ := InnL.at ss cls (SL.St.drop (l := InnL ss cls ++ l) h2.drop) i s x hs hx
  exact St.rdLC h3
theorem lend_at (w : World) (vars : Int) (vf : Value) (cls : List (List Int)) (hr : Rd2 (cInt .i64) vf cls w) (hlen : cls.length ≤ 1048576) (hlc : ∀ c ∈ cls, c.length ≤ 1048576) :
    Calls Tryd.prog 10 #[.agg #[.int .i64 vars, vf]] w fun e w' => ∃ B m c, e = .returned (.agg #[.int .i64 vars, .slice B m c]) ∧ ∀ w0 l, SL.St w0 l w → SL.St w0 (LentF (.slice B m c) cls :: l) w' :=
  (lend_walk w w [Old w] (St.start w) vars vf cls (old2 hr) hlen hlc).mono fun e w' ⟨v', he, h'⟩ => by
    obtain ⟨ss, z, g, c, hl, rfl, h2⟩ := St.lentF h'
    exact ⟨some ⟨g, 0, none⟩, cls.length, c, he, fun w0 l h => St.through (ps := [_]) h h'⟩
end Go.Proofs.YtnmkdhoijdoccaaDoor
