/- What is left of statements, and a block's call with the inputs that stood at their end. -/
import Derived.Test.YtafhiicjmlkhcaaS9
set_option linter.unusedVariables false
set_option linter.unusedSimpArgs false
namespace Go.Proofs.Ytafhiicjmlkhcaa
open Go Go.RowKit Go.Proofs.Ytafhiicjmlkhcaa.Abs

theorem Arg.rows_mem {l : List Arg} : ∀ r ∈ Arg.rows l, r.length = 6 := by simp [Arg.rows]
theorem Arg.rows_cons (a : Arg) (l : List Arg) : Arg.rows (a :: l) = a.cells :: Arg.rows l := rfl

set_option maxRecDepth 20000 in
set_option maxHeartbeats 8000000 in
theorem take_nil (x : St) (H : AHeap) : ACalls Try.prog 16 [.sl .full [], .agg x.cells] H fun r H' => r = .tup [.sl .full [], .agg x.cells] ∧ H' = H := by
  have key : PCall Try.prog 16 [.sl .full [], .agg x.cells] (.tup [.sl .full [], .agg x.cells]) := by
    refine pcall_fn Code.ok16 (by simp [Code.f16]) fun H => ?_
    simp [Code.f16]
    intro g1 g2
    refine LoopK.told (σ := Unit) (fun _ => [(0, .sl .full []), (3, .ptr H.length g1 0 0), (5, .ptr (H.length + 1) g2 0 0)]) (fun _ => H ++ [some (.rows g1 [x.cells]), some (.rows g2 [St.zero.cells])]) (fun _ => True) (fun _ => 0) () trivial ?_ ?_ ?_
    · simp
    · exact hwk_app (by simp; exact bw_rows (by simp [St.zero, St.cells, Ex.zero]))
    rintro _ _
    simp [Code.f16l0]
    refine LoopK.told (σ := Unit) (fun _ => [(6, .int .i64 (-1)), (0, .sl .full []), (3, .ptr H.length g1 0 0), (5, .ptr (H.length + 1) g2 0 0)]) (fun _ => H ++ [some (.rows g1 [x.cells]), some (.rows g2 [St.zero.cells])]) (fun _ => True) (fun _ => 0) () trivial ?_ ?_ ?_
    · simp; exact wkn_int (wrap_id (by omega) (by omega))
    · simp
    rintro _ _
    simp [Code.f16l1]
    exact vshift_drop (.refl _) (.front _ _)
  exact key H

theorem vshift_pair {a x y : AV} {J H : AHeap} (h : Wkn x y) (k : HWk J H) : VShift (.tup [a, x]) J (.tup [a, y]) H := by
  have := vshift_tup (xs := [a, x]) (i := 1) (x := x) rfl (vshift_drop h k)
  simpa using this

set_option maxRecDepth 20000 in
set_option maxHeartbeats 8000000 in
theorem take_ok (o : List St) (x : St) (ho : o.length ≤ 100000000) (hc : CostOk o) (hx0 : 0 ≤ x.cost) (hx1 : x.cost ≤ 1048576) (ha : x.args.length ≤ 100000000) {H : AHeap} {b g : Nat} (hH : H[b]? = some (some (.rows g (St.rows o)))) :
    ACalls Try.prog 16 [.osl b g 0 o.length 19, .agg x.cells] H fun r H' => r = .tup [.osl b g 0 (takeK o o.length x 0 o.length).1 19, .agg (takeK o o.length x 0 o.length).2.cells] ∧ H' = H := by
  suffices key : ACalls Try.prog 16 [.osl b g 0 o.length 19, .agg x.cells] H fun r H' => VShift r H' (.tup [.osl b g 0 (takeK o o.length x 0 o.length).1 19, .agg (takeK o o.length x 0 o.length).2.cells]) H from
    key.shift fun r H' h => ⟨_, _, h, rfl, rfl⟩
  refine acalls_fn Code.ok16 (by simp [Code.f16]) ?_
  simp [Code.f16]
  intro g1 g2
  have hb := get_lt hH
  refine LoopK.told (σ := Nat × St × AHeap) (fun s => [(0, .osl b g 0 s.1 19), (3, .ptr H.length g1 0 0), (5, .ptr (H.length + 1) g2 0 0)]) (fun s => s.2.2)
    (fun s => s.1 ≤ o.length ∧ takeK o o.length x 0 o.length = takeK o s.1 s.2.1 0 s.1 ∧ 0 ≤ s.2.1.cost ∧ s.2.1.cost ≤ 1048576 ∧ s.2.1.args.length + s.1 ≤ x.args.length + o.length ∧ Ov s.2.2 H ∧ s.2.2[b]? = some (some (.rows g (St.rows o))) ∧ s.2.2[H.length]? = some (some (.rows g1 [s.2.1.cells])) ∧ s.2.2[H.length + 1]? = some (some (.rows g2 [St.zero.cells])))
    (fun s => s.1) (o.length, x, H ++ [some (.rows g1 [x.cells]), some (.rows g2 [St.zero.cells])]) ?_ ?_ ?_ ?_
  · exact ⟨Nat.le_refl _, rfl, hx0, hx1, Nat.le_refl _, (Ov.refl H).app _, get_app hH, by simp, by simp⟩
  · simp
  · exact hwk_app (by simp; exact bw_rows (by simp [St.zero, St.cells, Ex.zero]))
  rintro ⟨q, y, J⟩ ⟨hq, hk, hy0, hy1, hya, hJ, hJb, hJx, hJr⟩
  simp only at hq hk hy0 hy1 hya hJ hJb hJx hJr
  generalize hbx : H.length = bx at hJx hJr ⊢
  have hbn : bx ≠ b := by omega
  have hbn1 : bx + 1 ≠ b := by omega
  simp [Code.f16l0]
  rw [wrap_id (by omega) (by omega)]
  refine LoopK.told (σ := Nat × Int) (fun s => [(6, .int .i64 ((s.1 : Int) - 1)), (7, .int .i64 s.2), (0, .osl b g 0 q 19), (3, .ptr bx g1 0 0), (5, .ptr (bx + 1) g2 0 0)]) (fun _ => J)
    (fun s => s.1 ≤ q ∧ takeK o o.length x 0 o.length = takeK o s.1 y s.2 q ∧ 0 ≤ s.2 ∧ s.2 ≤ 1048576 * (q - s.1)) (fun s => s.1) (q, 0) ?_ ?_ ?_ ?_
  · exact ⟨Nat.le_refl _, hk, by simp, by simp⟩
  · simp
  · simp
  rintro ⟨k, c⟩ ⟨hkq, hk2, hc0, hc1⟩
  simp only at hkq hk2 hc0 hc1
  have hend : ∀ {J' : AHeap} {cs : List AV}, takeK o o.length x 0 o.length = (q, y) → WkL cs y.cells → HWk J' H → VShift (.tup [.osl b g 0 q 19, .agg cs]) J' (.tup [.osl b g 0 (takeK o o.length x 0 o.length).1 19, .agg (takeK o o.length x 0 o.length).2.cells]) H := fun {J' cs} e w h => by
    rw [e]; exact vshift_pair (wkn_agg w) h
  cases k with
  | zero =>
    have hsr := fun z => List.getElem?_set_self (a := z) (get_lt hJr)
    simp [Code.f16l1, hJb, hJx, hJr, hsr]
    exact hend (by rw [hk2, takeK]) (.refl _) (hJ.set (by omega) _).hwk
  | succ k =>
  have hkl : k < o.length := by omega
  have hkq' : k < q := by omega
  have hny := nth_get hkl
  have hcy := hc k hkl
  generalize hz : o[k] = z at hny hcy
  have hg : o[k]? = some z := by rw [List.getElem?_eq_getElem hkl, hz]
  simp [Code.f16l1, hJb, hJx, hJr, hg, hkq']
  rw [takeK, hny] at hk2
  have hcw : IntKind.i64.wrap (c + z.cost) = c + z.cost := wrap_id (by omega) (by omega)
  refine ⟨fun hz0 => ?_, fun hz0 => ?_⟩
  · rw [if_pos hz0] at hk2
    exact ⟨k, c + z.cost, ⟨by omega, hk2, by omega, by omega⟩, by omega, wkn_int (wrap_id (by omega) (by omega)), wkn_int hcw⟩
  rw [if_neg hz0] at hk2
  refine ⟨fun h => by omega, fun g5 => ?_⟩
  have hz6 : (J ++ [some (.rows g5 [z.cells])])[J.length]? = some (some (.rows g5 [z.cells])) := by simp
  have hJ6 := hJ.app [some (.rows g5 [z.cells])]
  have hJb6 := get_app (l := [some (.rows g5 [z.cells])]) hJb
  have hJx6 := get_app (l := [some (.rows g5 [z.cells])]) hJx
  have hJr6 := get_app (l := [some (.rows g5 [z.cells])]) hJr
  generalize J ++ [some (.rows g5 [z.cells])] = J6 at hz6 hJ6 hJb6 hJx6 hJr6 ⊢
  generalize J.length = bz at hz6 ⊢
  have hsr := fun z => List.getElem?_set_self (a := z) (get_lt hJr6)
  have hret : takeK o o.length x 0 o.length = (q, y) → VShift (.tup [.osl b g 0 q 19, .agg y.cells]) (J6.set (bx + 1) (some (.rows g2 [y.cells]))) (.tup [.osl b g 0 (takeK o o.length x 0 o.length).1 19, .agg (takeK o o.length x 0 o.length).2.cells]) H := fun e => hend e (.refl _) (hJ6.set (by omega) _).hwk
  refine ⟨fun h4 => ?_, fun h4 => ?_⟩
  rotate_left
  · simp [hJx6, hJr6, hsr]
    exact hret (by rw [hk2, if_pos (.inl h4)])
  simp [hJx6, hz6]
  refine ⟨fun hn => ?_, fun hn => ?_⟩
  rotate_left
  · simp [hJx6, hJr6, hsr]
    exact hret (by rw [hk2, if_pos (.inr (.inl hn))])
  refine CallK.pure (has_ok y.args z.m (by omega)) ?_
  simp [hJx6, hz6]
  have hcy2 : IntKind.i64.wrap (1048576 - y.cost) = 1048576 - y.cost := wrap_id (by omega) (by omega)
  rw [hcw, hcy2]
  refine ⟨fun hh => ⟨fun hcc => ?_, fun hcc => ?_⟩, fun a ham haf => ?_⟩
  · simp [hJx6, hJr6, hsr]
    exact hret (by rw [hk2, if_pos (.inr (.inr (.inr hcc)))])
  rotate_left
  · simp [hJx6, hJr6, hsr]
    exact hret (by rw [hk2, if_pos (.inr (.inr (.inl ⟨a, ham, haf⟩)))])
  rw [if_neg (by
    rintro (h | h | ⟨a, h, e⟩ | h)
    · exact h h4
    · exact h hn
    · exact hh a h e
    · omega)] at hk2
  have hkq3 : k ≤ q := by omega
  rw [St.cells_eq y] at hJx6
  simp [hJx6, hz6, slcA, hkq3]
  intro g7
  refine app_lit hJ6 (by simp) Arg.rows_mem (by simp; omega) fun w7 J7 hJ7 hk7 => ?_
  have hJb7 := hk7 _ _ _ hJb6
  have hJx7 := hk7 _ _ _ hJx6
  have hJr7 := hk7 _ _ _ hJr6
  have hs7 := fun z => List.getElem?_set_self (a := z) (get_lt hJx7)
  simp [hJx7, hs7]
  have hcw2 : IntKind.i64.wrap (y.cost + (c + z.cost)) = y.cost + (c + z.cost) := wrap_id (by omega) (by omega)
  rw [hcw2]
  have e1 : (y.add z (c + z.cost)).cost = y.cost + (c + z.cost) := rfl
  have e2 : (y.add z (c + z.cost)).args.length = y.args.length + 1 := rfl
  have hs8 := hs7 (some (.rows g1 [(y.add z (c + z.cost)).cells]))
  refine ⟨k, y.add z (c + z.cost), J7.set bx (some (.rows g1 [(y.add z (c + z.cost)).cells])), ⟨by omega, hk2, by omega, by omega, by omega, hJ7.set (by omega) _, ?_, hs8, ?_⟩, by omega, .refl _, ?_⟩
  · rw [List.getElem?_set_ne hbn]; exact hJb7
  · rw [List.getElem?_set_ne (by omega)]; exact hJr7
  · refine hwk_set2 (get_lt hJx7) (bw_rows ?_)
    simp [St.add, St.put, St.cells, Arg.rows_cons, Arg.cells]
end Go.Proofs.Ytafhiicjmlkhcaa
