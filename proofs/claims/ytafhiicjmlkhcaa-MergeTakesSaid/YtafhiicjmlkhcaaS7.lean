/- A function of lists, done to all lists within statements. -/
import Derived.Test.YtafhiicjmlkhcaaS6
set_option linter.unusedVariables false
set_option linter.unusedSimpArgs false
namespace Go.Proofs.Ytafhiicjmlkhcaa
open Go Go.RowKit Go.Proofs.Ytafhiicjmlkhcaa.Abs

theorem Arm.rows_mem {l : List Arm} : ∀ r ∈ Arm.rows l, r.length = 2 := by
  induction l with
  | nil => simp
  | cons x r ih => rw [Arm.rows]; simpa using ih
theorem Arm.rows_map_set (f : Arm → Arm) : ∀ (l : List Arm) (j : Nat) (h : j < l.length), (Arm.rows ((l.take j).map f ++ l.drop j)).set j (f l[j]).cells = Arm.rows ((l.take (j + 1)).map f ++ l.drop (j + 1))
  | x :: r, 0, h => by simp [Arm.rows]
  | x :: r, j + 1, h => by
    have := Arm.rows_map_set f r j (by simpa using h)
    simp [Arm.rows] at this ⊢
    exact this

set_option maxRecDepth 20000 in
set_option maxHeartbeats 8000000 in
theorem deep_ok {fid : Nat} {F : List St → List St} {OK Pre : List St → Prop} (hfn : fnOk Try.prog fid = true) (hF : ∀ l, Pre l → PCall Try.prog fid [.sl .no (St.rows l)] (.sl .no (St.rows (F l)))) (hP : ∀ l, OK l → Pre (l.map (St.dp F)))
    (hOK : ∀ l, OK l → ∀ (i : Nat) (h : i < l.length), OK l[i].body ∧ OK l[i].els ∧ ∀ (j : Nat) (h' : j < l[i].arms.length), OK (l[i].arms[j].body)) (hsz : ∀ l, OK l → St.sizeL l < 100000000) :
    ∀ (k : Nat) (l : List St), St.sizeL l < k → OK l → PCall Try.prog 14 [.sl .no (St.rows l), .fn (.func fid) [] []] (.sl .no (St.rows (F (l.map (St.dp F))))) := by
  intro k
  induction k with
  | zero => intro l h; omega
  | succ k ih =>
  intro l hk ok
  have hsl := hsz l ok
  have hlen := St.len_size l
  refine pcall_fn Code.ok14 (by simp [Code.f14]) fun H => ?_
  simp [Code.f14]
  refine LoopK.told (σ := Nat × Wh × AHeap) (fun s => [(12, .int .i64 s.1), (11, .int .i64 l.length), (10, .sl .no (St.rows l)), (5, .sl (ownS s.2.1) (St.rows ((l.take s.1).map (St.dp F)))), (1, .fn (.func fid) [] [])]) (fun s => s.2.2)
    (fun s => s.1 ≤ l.length ∧ WOk H.length s.2.1 ∧ TailAt s.2.2 s.2.1 19 ∧ Ov s.2.2 H) (fun s => l.length - s.1) (0, none, H) ?_ ?_ ?_ ?_
  · simp [Ov.refl]
  · simp
  · simp
  rintro ⟨i, w, J⟩ ⟨hi, hw, hT, hJ⟩
  simp only at hi hw hT hJ
  simp [Code.f14l0]
  refine ⟨fun h => ?_, fun h => ?_⟩
  · have hs := St.size_mem h
    have hse := St.size_eq l[i]
    have hal := Arm.len_size l[i].arms
    have ht := List.take_succ_eq_append_getElem h
    have ok2 := hOK l ok i h
    generalize hx : l[i] = x at hs hse hal ht ok2
    simp [List.getElem?_eq_getElem h, hx]
    intro g
    have hx1 : (J ++ [some (.rows g [x.cells])])[J.length]? = some (some (.rows g [x.cells])) := by simp
    have hT1 := hT.app [some (.rows g [x.cells])]
    have hJ1 := hJ.app [some (.rows g [x.cells])]
    have hbx := hJ.len
    generalize J ++ [some (.rows g [x.cells])] = J1 at hx1 hT1 hJ1 ⊢
    generalize J.length = bx at hx1 hbx ⊢
    have hs1 := fun y => List.getElem?_set_self (a := y) (get_lt hx1)
    refine PCallK.pure (ih x.body (by omega) ok2.1) ?_
    simp [hx1, hs1]
    refine PCallK.pure (ih x.els (by omega) ok2.2.1) ?_
    rw [St.cells_eq x] at hx1
    simp [hx1, hs1]
    generalize hb' : F (x.body.map (St.dp F)) = body
    generalize he' : F (x.els.map (St.dp F)) = els
    have hx2 := hs1 (some (.rows g [[.int .i64 x.kind, .int .i64 x.cost, .int .i64 x.n, .int .i64 x.m, .int .i64 x.e.op, .int .i64 x.e.t, .int .i64 x.e.n, .int .i64 x.e.m, .sl .no (Ex.rows x.e.l),
      .int .i64 x.i.op, .int .i64 x.i.t, .int .i64 x.i.n, .int .i64 x.i.m, .sl .no (Ex.rows x.i.l), .sl .no (Ex.rows x.l), .sl .no (Arg.rows x.args), .sl .no (St.rows body), .sl .no (St.rows els), .sl .no (Arm.rows x.arms)]]))
    have hT2 := hT1.set (x := (.rows g [[.int .i64 x.kind, .int .i64 x.cost, .int .i64 x.n, .int .i64 x.m, .int .i64 x.e.op, .int .i64 x.e.t, .int .i64 x.e.n, .int .i64 x.e.m, .sl .no (Ex.rows x.e.l),
      .int .i64 x.i.op, .int .i64 x.i.t, .int .i64 x.i.n, .int .i64 x.i.m, .sl .no (Ex.rows x.i.l), .sl .no (Ex.rows x.l), .sl .no (Arg.rows x.args), .sl .no (St.rows body), .sl .no (St.rows els), .sl .no (Arm.rows x.arms)]])) hx1
    have hJ2 := hJ1.set hbx (some (.rows g [[.int .i64 x.kind, .int .i64 x.cost, .int .i64 x.n, .int .i64 x.m, .int .i64 x.e.op, .int .i64 x.e.t, .int .i64 x.e.n, .int .i64 x.e.m, .sl .no (Ex.rows x.e.l),
      .int .i64 x.i.op, .int .i64 x.i.t, .int .i64 x.i.n, .int .i64 x.i.m, .sl .no (Ex.rows x.i.l), .sl .no (Ex.rows x.l), .sl .no (Arg.rows x.args), .sl .no (St.rows body), .sl .no (St.rows els), .sl .no (Arm.rows x.arms)]]))
    generalize J1.set bx _ = J2 at hx2 hT2 hJ2 ⊢
    have he1 : List.take (i + 1) (List.map (St.dp F) l) = List.take i (List.map (St.dp F) l) ++ [x.dp F] := by rw [← List.map_take, ht, List.map_append, List.map_take]; rfl
    refine ⟨fun ha => ?_, fun ha => ?_⟩
    · intro g2
      show OptK (apA g2 true 2 48 (outV none 0 2) _ _) _
      refine app_out (.nil J2) (WOk_none _) hJ2 (by intro e; rw [← List.length_eq_zero_iff, Arm.rows_length] at e; omega) Arm.rows_mem (by simp; omega) fun b J3 hO3 hb3 hJ3 hk3 => ?_
      simp at hO3
      simp
      have hT3 : TailAt J3 w 19 := fun b' g' e => (hk3 _ _ (hT2 b' g' e) (Off_none _)).1
      obtain ⟨hx3, hbn⟩ := hk3 _ _ hx2 (Off_none _)
      refine LoopK.told (σ := Nat × AHeap) (fun s => [(36, .int .i64 s.1), (35, .int .i64 x.arms.length), (8, .osl b g2 0 x.arms.length 2), (7, .ptr bx g 0 0), (12, .int .i64 i), (11, .int .i64 l.length), (10, .sl .no (St.rows l)), (5, .sl (ownS w) (St.rows ((l.take i).map (St.dp F)))), (1, .fn (.func fid) [] [])]) (fun s => s.2)
        (fun s => s.1 ≤ x.arms.length ∧ OutAt s.2 (some (b, g2)) x.arms.length (Arm.rows ((x.arms.take s.1).map (Arm.dp F) ++ x.arms.drop s.1)) ∧ TailAt s.2 w 19 ∧ Ov s.2 H ∧ s.2[bx]? = J3[bx]?) (fun s => x.arms.length - s.1) (0, J3) ?_ ?_ ?_ ?_
      · exact ⟨by simp, by simpa using hO3, hT3, hJ3, rfl⟩
      · simp
      · simp
      rintro ⟨j, J4⟩ ⟨hj, hO4, hT4, hJ4, hx4⟩
      simp only at hj hO4 hT4 hJ4 hx4
      have hb4 := hO4.2.2 _ _ rfl
      rw [hx3] at hx4
      simp [Code.f14l1]
      refine ⟨fun hjl => ?_, fun hjl => ?_⟩
      · have hrj : (List.take j (List.map (Arm.dp F) x.arms) ++ List.drop j x.arms)[j]? = some x.arms[j] := by
          rw [List.getElem?_append_right (by simp; omega)]; simp [Nat.min_eq_left hj, List.getElem?_eq_getElem hjl]
        have hav := Arm.size_mem hjl
        have hae := Arm.size_eq x.arms[j]
        simp [hb4, hrj, hjl]
        refine CallK.pure (ih x.arms[j].body (by omega) (ok2.2.2 j hjl)) ?_
        simp [hb4, hrj, hjl]
        have hset : (Arm.rows (List.take j (List.map (Arm.dp F) x.arms) ++ List.drop j x.arms)).set j (List.take 1 x.arms[j].cells ++ .sl .no (St.rows (F (List.map (St.dp F) x.arms[j].body))) :: List.drop 2 x.arms[j].cells) = Arm.rows (List.take (j + 1) (List.map (Arm.dp F) x.arms) ++ List.drop (j + 1) x.arms) := by
          have := Arm.rows_map_set (Arm.dp F) x.arms j hjl
          rw [List.map_take, List.map_take] at this
          rw [← this, Arm.dp_eq, Arm.cells_eq x.arms[j]]
          simp [Arm.cells]
        rw [hset]
        refine ⟨j + 1, _, ⟨by omega, ⟨fun e => (by cases e), ?_, fun b' g' e => (by cases e; exact List.getElem?_set_self (get_lt hb4))⟩, hT4.set hb4, hJ4.set hb3 _, ?_⟩, by omega, wkn_int (wrap_id (by omega) (by omega)), .refl _⟩
        · simp; omega
        · rw [List.getElem?_set_ne hbn, hx3]; exact hx4
      · refine CutK.shift (shift_out (t := 8) (w := some (b, g2)) (n := x.arms.length) (sz := 2) (E' := [(8, .sl .no (Arm.rows (x.arms.map (Arm.dp F)))), (7, .ptr bx g 0 0), (12, .int .i64 i), (11, .int .i64 l.length), (10, .sl .no (St.rows l)), (5, .sl (ownS w) (St.rows ((l.take i).map (St.dp F)))), (1, .fn (.func fid) [] [])]) ?_ hO4 ?_) ?_
        · simp [outV]
        · rw [List.take_of_length_le hjl, List.drop_eq_nil_of_le hjl, List.take_of_length_le (by simp)]
          simp
        have hx5 : (outDrop J4 (some (b, g2)))[bx]? = _ := (outDrop_get (fun b' g' e => by cases e; exact hbn)).trans hx4
        have hT5 := hT4.drop hO4
        have hJ5 := hJ4.drop (w := some (b, g2)) (fun b' g' e => by cases e; exact hb3)
        generalize outDrop J4 (some (b, g2)) = J5 at hx5 hT5 hJ5 ⊢
        have hs5 := fun y => List.getElem?_set_self (a := y) (get_lt hx5)
        simp [hx5, hs5]
        intro g3
        refine app_own (hT5.set hx5) hw (hJ5.set hbx _) (by simp) St.rows_mem (by simp) (by simp; omega) fun w6 J6 hT6 hw6 hJ6 hk6 => ?_
        simp
        refine ⟨i + 1, w6, J6, ⟨by omega, hw6, hT6, hJ6⟩, by omega, ⟨wkn_int (wrap_id (by omega) (by omega)), ?_⟩, .refl _⟩
        rw [he1, St.rows_snoc]
        refine wkn_rows (.snoc _ ?_)
        rw [St.dp_eq, St.cells]
        simp [hb', he']
    · intro g3
      refine app_own hT2 hw hJ2 (by simp) St.rows_mem (by simp) (by simp; omega) fun w6 J6 hT6 hw6 hJ6 hk6 => ?_
      simp
      refine ⟨i + 1, w6, J6, ⟨by omega, hw6, hT6, hJ6⟩, by omega, ⟨wkn_int (wrap_id (by omega) (by omega)), ?_⟩, .refl _⟩
      rw [he1, St.rows_snoc]
      refine wkn_rows (.snoc _ ?_)
      rw [St.dp_eq, St.cells]
      simp [hb', he', ha]
  · rw [List.take_of_length_le (by simpa using h)]
    refine ⟨hfn, CallK.wk (ys := [.sl .no (St.rows (l.map (St.dp F)))]) (by simp) ?_⟩
    refine CallK.pure (hF _ (hP l ok)) ?_
    simp
    exact vshift_drop (.refl _) hJ.hwk
end Go.Proofs.Ytafhiicjmlkhcaa
