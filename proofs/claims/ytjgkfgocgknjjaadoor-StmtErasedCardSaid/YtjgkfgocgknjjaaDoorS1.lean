/- Room: how many more expressions there may be. -/
import Derived.Test.YtjgkfgocgknjjaaDoorCode
import Derived.Test.YtjgkfgocgknjjaaDoorD1
set_option linter.unusedVariables false
set_option linter.unusedSimpArgs false
namespace Go.Proofs.YtjgkfgocgknjjaaDoor
open Go Go.RowKit Go.Proofs.YtjgkfgocgknjjaaDoor.Abs
mutual
def Ex.room : Ex → Int → Int → Int
  | .mk _ _ _ _ l, most, deep => if most < 1 ∨ deep < 1 then -1 else Ex.roomL l (most - 1) deep
def Ex.roomL : List Ex → Int → Int → Int
  | [], most, _ => most
  | e :: r, most, deep => if e.room most (deep - 1) < 0 then -1 else Ex.roomL r (e.room most (deep - 1)) deep
end
theorem Ex.room_eq (e : Ex) (most deep : Int) : e.room most deep = if most < 1 ∨ deep < 1 then -1 else Ex.roomL e.l (most - 1) deep := by cases e; rw [Ex.room, Ex.l]
mutual
theorem Ex.room_size : ∀ (e : Ex) (most deep : Int), 0 ≤ e.room most deep → e.room most deep + e.size ≤ most
  | .mk _ _ _ _ l, most, deep, h => by
    simp only [Ex.room, Ex.size] at h ⊢
    split at h
    · omega
    · rename_i hn; rw [if_neg hn]
      have := Ex.roomL_size l (most - 1) deep h; omega
theorem Ex.roomL_size : ∀ (l : List Ex) (most deep : Int), 0 ≤ Ex.roomL l most deep → Ex.roomL l most deep + Ex.sizeL l ≤ most
  | [], most, _, h => by simp [Ex.roomL, Ex.sizeL]
  | e :: r, most, deep, h => by
    simp only [Ex.roomL, Ex.sizeL] at h ⊢
    split at h
    · omega
    · rename_i hn; rw [if_neg hn]
      have h1 := Ex.room_size e most (deep - 1) (by omega)
      have := Ex.roomL_size r (e.room most (deep - 1)) deep h; omega
end
theorem Ex.roomL_drop {l : List Ex} {i : Nat} (h : i < l.length) (most deep : Int) : Ex.roomL (l.drop i) most deep = if (l[i]).room most (deep - 1) < 0 then -1 else Ex.roomL (l.drop (i + 1)) ((l[i]).room most (deep - 1)) deep := by
  rw [List.drop_eq_getElem_cons h, Ex.roomL]

set_option maxHeartbeats 1000000 in
theorem room_ok : ∀ (k : Nat) (e : Ex), e.size ≤ k → ∀ (most deep : Int), most ≤ 1000000 → deep ≤ 1000000 → PCall Tryd.prog 40 [.agg e.cells, .int .i64 most, .int .i64 deep] (.int .i64 (e.room most deep)) := by
  intro k
  induction k with
  | zero => intro e he; have := e.size_pos; omega
  | succ k ih =>
    intro e he most deep hm hd
    refine pcall_fn Code.ok40 (by simp [Code.f40]) fun H => ?_
    simp [Code.f40]
    intro g
    have hneg : ∀ {J : AHeap}, (most < 1 ∨ deep < 1) → VShift (.int .i64 (-1)) (H ++ J) (.int .i64 (e.room most deep)) H := fun h => by
      rw [Ex.room_eq, if_pos h]; exact vshift_drop (.refl _) (.front _ _)
    refine ⟨fun h1 => ⟨fun h2 => hneg (.inr h2), fun h2 => ?_⟩, fun h => hneg (.inl h)⟩
    rw [wrap_id (by omega) (by omega)]
    refine LoopK.told (σ := Nat × Int) (fun s => [(7, .int .i64 s.1), (1, .int .i64 s.2), (2, .int .i64 deep), (3, .ptr H.length g 0 0)]) (fun _ => H ++ [some (.rows g [e.cells])])
      (fun s => s.1 ≤ e.l.length ∧ e.room most deep = Ex.roomL (e.l.drop s.1) s.2 deep ∧ 0 ≤ s.2 ∧ s.1 + s.2 ≤ 1000000) (fun s => e.l.length - s.1) (0, most - 1) ?_ ?_ ?_ ?_
    · simp only [Ex.room_eq e, List.drop_zero]; rw [if_neg (by omega)]; omega
    · simp
    · simp
    · rintro ⟨i, q⟩ ⟨hi, hr, h0, hq⟩
      simp only at hi hr h0 hq
      simp [Code.f40l0]
      refine ⟨fun h => ?_, fun h => ?_⟩
      · have hs := Ex.size_mem h
        have he2 := Ex.size_eq e
        simp [List.getElem?_eq_getElem h]
        rw [wrap_id (by omega) (by omega)]
        refine CallK.pure (ih _ (by omega) q (deep - 1) (by omega) (by omega)) ?_
        simp only [Ex.roomL_drop h] at hr
        simp
        refine ⟨fun h => ?_, fun h3 => ⟨i + 1, (e.l[i]).room q (deep - 1), ⟨by omega, ?_, by omega, ?_⟩, by omega, ?_, .refl _⟩⟩
        · rw [hr, if_pos h]; exact vshift_drop (.refl _) (.front _ _)
        · rw [hr, if_neg (by omega)]
        · have := Ex.room_size (e.l[i]) q (deep - 1) h3; have := Ex.size_pos (e.l[i]); omega
        · rw [wrap_id (by omega) (by omega)]; exact .refl _
      · rw [List.drop_eq_nil_of_le h] at hr
        rw [hr]; exact vshift_drop (.refl _) (.front _ _)
theorem room_call (e : Ex) {most deep : Int} (h : most ≤ 1000000) (h' : deep ≤ 1000000) : PCall Tryd.prog 40 [.agg e.cells, .int .i64 most, .int .i64 deep] (.int .i64 (e.room most deep)) := room_ok _ e (Nat.le_refl _) most deep h h'
end Go.Proofs.YtjgkfgocgknjjaaDoor
