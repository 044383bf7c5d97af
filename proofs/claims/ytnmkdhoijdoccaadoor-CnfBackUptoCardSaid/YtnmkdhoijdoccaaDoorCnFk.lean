/- append that keeps what stood before: in place, or in a block of its own beside it. -/
import Derived.Test.YtnmkdhoijdoccaaDoorRw
set_option linter.unusedVariables false
set_option linter.unusedSimpArgs false
namespace Go.Proofs.YtnmkdhoijdoccaaDoor.SL
open Go Go.RowKit

section
variable {P : Program} {α : Type} {d : Cd α} {w0 w : World} {l : List HP} {t ty e : TypeId} {v : Value} {xs ys : List α} {z : Value} {bytes : Nat}
theorem St.arr_grown {b n cap : Nat} {zs : Array Value} (h : St w0 (Blk b (.cells ((d.all xs).toArray ++ zs) e (0, 0)) :: l) w) (hn : n = xs.length) (hc : n ≤ cap) (hm : cap ≤ maxLen) (hz : zs.size = (cap - n) * d.sz) :
    St w0 (Arr d e (.slice (some ⟨b, 0, none⟩) n cap) xs :: l) w := by
  subst hn
  have h2 := h.row_of_blk (sz := d.sz) xs.length cap hc hm (by
    rw [Array.size_append, hz, List.size_toArray, d.all_length, ← Nat.add_mul]
    congr 1; omega)
  have e1 : ((d.all xs).toArray ++ zs).toList.take (xs.length * d.sz) = d.all xs := by
    rw [Array.toList_append, ← d.all_length]
    exact List.take_left
  rw [e1] at h2
  exact h2
theorem run_app_keep (ht : P.underlying t = some (.slice e)) (hinfo : (P.info? e).map (fun i => (i.zero, i.size, i.bytes)) = some (some z, d.sz, bytes)) (hz : z.cells.size = d.sz)
    (hst : St w0 (Arr d e v xs :: l) w) {s : Value} (hrd : Rd d s ys w) (hys : ys ≠ []) (hroom : (xs.length + ys.length) * bytes ≤ 140737488355328) (hlen : xs.length + ys.length ≤ 140737488355328) :
    ∃ v' w', (Builtin.append_ #[t, t] ty #[v, s]).run P w = .ok v' w' ∧ (St w0 (Arr d e v' (xs ++ ys) :: Arr d e v xs :: l) w' ∨
      (St w0 (Arr d e v' (xs ++ ys) :: l) w' ∧ ∃ g c, v = .slice (some ⟨g, 0, none⟩) xs.length c ∧ v' = .slice (some ⟨g, 0, none⟩) (xs.length + ys.length) c)) := by
  obtain ⟨i0, hi, hzz⟩ := Option.map_eq_some_iff.1 hinfo
  simp only [Prod.mk.injEq] at hzz
  obtain ⟨hz0, hz1, hz2⟩ := hzz
  obtain ⟨ad, c, rfl, hc⟩ := hrd.all hys
  have hy1 : 0 < ys.length := List.length_pos_iff.2 hys
  have hmx : xs.length + ys.length ≤ maxLen := by simp only [maxLen]; omega
  have HO := hst.owns
  rcases HO.2 with ⟨rfl, hn⟩ | ⟨g, cap, cur, rfl, _, hg, hnc, hcm, hcs, htk⟩
  · obtain rfl : xs = [] := List.eq_nil_of_length_eq_zero hn
    have hr := run_append_nil (P := P) (w := w) t ty e i0 z ht hi hz0 ad ys.length c (d.all ys) (by rw [hz1]; exact d.all_length ys) hc hy1 (by simp only [maxLen] at hmx; simp at hmx; omega) (by rw [hz2]; simp only [List.length_nil, Nat.zero_add] at hroom; omega)
    refine ⟨_, _, hr, .inl ?_⟩
    have h2 := (hst.drew.alloc (.cells ((d.all ys).toArray ++ Builtin.zeroCells z.cells (grownCap w ys.length 0 e - ys.length)) e)).arr_grown (d := d) (xs := ys) (n := ys.length) (cap := grownCap w ys.length 0 e) rfl (grownCap_ge w _ _ e) (grownCap_le_maxLen w _ _ e (by simpa using hmx)) (by rw [size_zeroCells, hz])
    simpa using h2
  · by_cases hroomy : xs.length + ys.length ≤ cap
    · obtain ⟨v', w', hr, h1, h2, h3, h4⟩ := run_append_own_at (P := P) w 0 t ty e i0 z d.sz bytes ht hi hz0 hz1 hz2 hz d.pos _ xs.length (d.all xs) hst.owns ad ys.length c (d.all ys) (d.all_length ys) hc (d.all_one ys) hmx hroom (Nat.zero_le _)
      have hfit : xs.length * i0.size + (d.all ys).length ≤ cur.size := by rw [d.all_length, hz1, hcs, ← Nat.add_mul]; exact Nat.mul_le_mul_right _ hroomy
      have hr2 := run_append_room (P := P) w t ty e i0 ht hi g xs.length cap cur hg ad ys.length c (d.all ys) (by rw [hz1]; exact d.all_length ys) hc (d.all_one ys) hroomy hfit
      have hv : v' = .slice (some ⟨g, 0, none⟩) (xs.length + ys.length) cap := by
        rw [hr] at hr2
        injection hr2
      refine ⟨v', w', hr, .inr ⟨?_, g, cap, rfl, hv⟩⟩
      have hs := St.row_step hst h1 h2 (h4.imp id fun h4 k hk => by rw [h4] at hk; cases hk; exact Nat.le_refl _)
      unfold Arr
      rw [List.length_append, d.all_append]
      exact hs
    · have holds : ∀ j u, (d.all xs)[j]? = some u → w.cell? ((⟨g, 0, none⟩ : Addr).add j) = some u := hst.owns.cells (g := g) rfl
      have hr := run_append_grow (P := P) (w := w) t ty e i0 z ht hi hz0 ⟨g, 0, none⟩ xs.length cap (d.all xs) (by rw [hz1]; exact d.all_length xs) holds ad ys.length c (d.all ys) (by rw [hz1]; exact d.all_length ys) hc (by omega) (by simp only [maxLen] at hmx; omega) (growslice_fits (by omega) (by rw [hz2]; exact hroom))
      refine ⟨_, _, hr, .inl ?_⟩
      have h2 := (hst.drew.alloc (.cells ((d.all (xs ++ ys)).toArray ++ Builtin.zeroCells z.cells (grownCap w (xs.length + ys.length) cap e - (xs.length + ys.length))) e)).arr_grown (d := d) (xs := xs ++ ys) (n := xs.length + ys.length) (cap := grownCap w (xs.length + ys.length) cap e) (by rw [List.length_append]) (grownCap_ge w _ _ e) (grownCap_le_maxLen w _ _ e hmx) (by rw [size_zeroCells, hz])
      rw [d.all_append] at h2
      simpa using h2
theorem wpList_app_keep {ops : Array Oper} {rest : List Oper} {o : Oper} {a : Act} {Q : Exit → Act → World → Prop} (hgd : o.guard = none) (s x : Operand)
    (ho : o.op = .call { callee := .builtin .append, args := #[s, x], argTypes := #[t, t] })
    (ht : P.underlying t = some (.slice e)) (hinfo : (P.info? e).map (fun i => (i.zero, i.size, i.bytes)) = some (some z, d.sz, bytes)) (hz : z.cells.size = d.sz)
    (hst : St w0 (Arr d e v xs :: l) w) (hs : a.eval s = v) {sv : Value} (hx : a.eval x = sv) (hrd : Rd d sv ys w) (hys : ys ≠ []) (hroom : (xs.length + ys.length) * bytes ≤ 140737488355328) (hlen : xs.length + ys.length ≤ 140737488355328)
    (h : ∀ v' w', (St w0 (Arr d e v' (xs ++ ys) :: Arr d e v xs :: l) w' ∨
      (St w0 (Arr d e v' (xs ++ ys) :: l) w' ∧ ∃ g c, v = .slice (some ⟨g, 0, none⟩) xs.length c ∧ v' = .slice (some ⟨g, 0, none⟩) (xs.length + ys.length) c)) → wpList P ops Q rest (a.put o.dst v') w') : wpList P ops Q (o :: rest) a w := by
  refine wpList_plain hgd fun K hK => ?_
  obtain ⟨v', w', hr, h2⟩ := run_app_keep (ty := o.type) ht hinfo hz hst hrd hys hroom hlen
  unfold Oper.wp execOp
  simp only [ho, resolve, invoke, builtin, Sem.run_bind, Sem.run_pure, Result.andThen_ok, List.map_toArray, List.map_cons, List.map_nil, hs, hx, hr]
  exact hK _ _ (h v' w' h2)
theorem step_app_keep {ops : Array Oper} {o : Oper} {a : Act} {K : Act → World → Prop} {Q : Exit → Act → World → Prop} {E : Prop} (hgd : o.guard = none) (s x : Operand)
    (ho : o.op = .call { callee := .builtin .append, args := #[s, x], argTypes := #[t, t] })
    (ht : P.underlying t = some (.slice e)) (hinfo : (P.info? e).map (fun i => (i.zero, i.size, i.bytes)) = some (some z, d.sz, bytes)) (hz : z.cells.size = d.sz)
    (hst : St w0 (Arr d e v xs :: l) w) (hs : a.eval s = v) {sv : Value} (hx : a.eval x = sv) (hrd : Rd d sv ys w) (hys : ys ≠ []) (hroom : (xs.length + ys.length) * bytes ≤ 140737488355328) (hlen : xs.length + ys.length ≤ 140737488355328)
    (h : ∀ v' w', (St w0 (Arr d e v' (xs ++ ys) :: Arr d e v xs :: l) w' ∨
      (St w0 (Arr d e v' (xs ++ ys) :: l) w' ∧ ∃ g c, v = .slice (some ⟨g, 0, none⟩) xs.length c ∧ v' = .slice (some ⟨g, 0, none⟩) (xs.length + ys.length) c)) → K (a.put o.dst v') w') : if Region.wanted o (yielded ops a.tmps) = true then Oper.wp P o a w K Q else E := by
  have hw : Region.wanted o (yielded ops a.tmps) = true := by simp [Region.wanted, hgd]
  rw [if_pos hw]
  obtain ⟨v', w', hr, h2⟩ := run_app_keep (ty := o.type) ht hinfo hz hst hrd hys hroom hlen
  unfold Oper.wp execOp
  simp only [ho, resolve, invoke, builtin, Sem.run_bind, Sem.run_pure, Result.andThen_ok, List.map_toArray, List.map_cons, List.map_nil, hs, hx, hr]
  exact h v' w' h2
/-- A row reads through any slice that is its head. -/
theorem Rd.head {g n c c' : Nat} (h : Rd d (.slice (some ⟨g, 0, none⟩) n c) (xs ++ ys) w) : Rd d (.slice (some ⟨g, 0, none⟩) xs.length c') xs w := by
  obtain ⟨A, c2, hv, hm, hc⟩ := h
  injection hv with e1 e2 e3
  subst e1
  refine ⟨_, _, rfl, by rw [List.length_append] at hm; omega, fun i x hx => hc i x ?_⟩
  rw [List.getElem?_append_left (List.getElem?_eq_some_iff.1 hx).1]; exact hx
end
end Go.Proofs.YtnmkdhoijdoccaaDoor.SL
