/- The law's row. -/
import Derived.Test.YtafhiicjmlkhcaaS14
import Derived.Test.YtafhiicjmlkhcaaA18
set_option linter.unusedVariables false
set_option linter.unusedSimpArgs false
namespace Go.Proofs.Ytafhiicjmlkhcaa
open Go Go.RowKit Go.Proofs.Ytafhiicjmlkhcaa.Abs

theorem u3 : Try.prog.underlying 3 = some (.int .i64) := by kernel_rfl
theorem u22 : Try.prog.underlying 22 = some (.slice 35) := by kernel_rfl
theorem u29 : Try.prog.underlying 29 = some (.slice 31) := by kernel_rfl
theorem u32 : Try.prog.underlying 32 = some (.slice 40) := by kernel_rfl
theorem u33 : Try.prog.underlying 33 = some (.slice 38) := by kernel_rfl
theorem u36 : Try.prog.underlying 36 = some (.slice 3) := by kernel_rfl
theorem s31 : structTypes Try.prog 31 = some [3, 3, 3, 3, 29] := by kernel_rfl
theorem s35 : structTypes Try.prog 35 = some [3, 3, 3, 3, 31, 31, 29, 32, 22, 22, 33] := by kernel_rfl
theorem s38 : structTypes Try.prog 38 = some [36, 22] := by kernel_rfl
theorem s40 : structTypes Try.prog 40 = some [3, 31] := by kernel_rfl
theorem plain : plainS Try.prog [22, 29, 31, 32, 33, 35, 36, 38, 40, 3] = true := by kernel_rfl

theorem Ex.rows_map : ∀ l : List Ex, Ex.rows l = l.map Ex.cells
  | [] => by simp [Ex.rows]
  | x :: r => by simp [Ex.rows, Ex.rows_map r]
theorem St.rows_map : ∀ l : List St, St.rows l = l.map St.cells
  | [] => by simp [St.rows]
  | x :: r => by simp [St.rows, St.rows_map r]
theorem Arm.rows_map : ∀ l : List Arm, Arm.rows l = l.map Arm.cells
  | [] => by simp [Arm.rows]
  | x :: r => by simp [Arm.rows, Arm.rows_map r]
theorem fit_ex : ∀ (k : Nat) (xs : List AV), Fit Try.prog k 31 xs → ∃ e : Ex, xs = e.cells := by
  intro k
  induction k using Nat.strongRecOn with
  | _ k ih =>
    intro xs h
    obtain ⟨k1, h1, a, b, rfl, ha, a2, b2, rfl, ha2, a3, b3, rfl, ha3, a4, b4, rfl, ha4, a5, b5, rfl, ha5, rfl⟩ := fit_struct s31 h
    obtain ⟨n1, rfl, _⟩ := fit_int u3 ha
    obtain ⟨n2, rfl, _⟩ := fit_int u3 ha2
    obtain ⟨n3, rfl, _⟩ := fit_int u3 ha3
    obtain ⟨n4, rfl, _⟩ := fit_int u3 ha4
    obtain ⟨l, rfl, _⟩ := fit_rows u29 (fun k' hk ys hy => ih k' (by omega) ys hy) ha5
    exact ⟨.mk n1 n2 n3 n4 l, by simp [Ex.cells, Ex.rows_map]⟩
theorem fit_arg (k : Nat) (xs : List AV) (h : Fit Try.prog k 40 xs) : ∃ a : Arg, xs = a.cells := by
  obtain ⟨k1, h1, a, b, rfl, ha, a2, b2, rfl, ha2, rfl⟩ := fit_struct s40 h
  obtain ⟨n1, rfl, _⟩ := fit_int u3 ha
  obtain ⟨e, rfl⟩ := fit_ex _ _ ha2
  exact ⟨⟨n1, e⟩, by simp [Arg.cells]⟩
theorem fit_ints {k : Nat} {xs : List AV} (h : Fit Try.prog k 36 xs) : ∃ l : List Int, xs = [.sl .no (intRows l)] := by
  obtain ⟨l, rfl, _⟩ := fit_rows (φ := fun n : Int => [AV.int .i64 n]) u36 (fun k' hk ys hy => by obtain ⟨n, h, _⟩ := fit_int u3 hy; exact ⟨n, h⟩) h
  exact ⟨l, rfl⟩
theorem fit_st : ∀ (k : Nat) (xs : List AV), Fit Try.prog k 35 xs → ∃ x : St, xs = x.cells := by
  intro k
  induction k using Nat.strongRecOn with
  | _ k ih =>
    intro xs h
    obtain ⟨k1, h1, c1, b1, rfl, g1, c2, b2, rfl, g2, c3, b3, rfl, g3, c4, b4, rfl, g4, c5, b5, rfl, g5, c6, b6, rfl, g6, c7, b7, rfl, g7, c8, b8, rfl, g8, c9, b9, rfl, g9, c10, b10, rfl, g10, c11, b11, rfl, g11, rfl⟩ := fit_struct s35 h
    obtain ⟨n1, rfl, _⟩ := fit_int u3 g1
    obtain ⟨n2, rfl, _⟩ := fit_int u3 g2
    obtain ⟨n3, rfl, _⟩ := fit_int u3 g3
    obtain ⟨n4, rfl, _⟩ := fit_int u3 g4
    obtain ⟨e, rfl⟩ := fit_ex _ _ g5
    obtain ⟨i, rfl⟩ := fit_ex _ _ g6
    obtain ⟨l, rfl, _⟩ := fit_rows u29 (fun k' hk ys hy => fit_ex k' ys hy) g7
    obtain ⟨args, rfl, _⟩ := fit_rows u32 (fun k' hk ys hy => fit_arg k' ys hy) g8
    obtain ⟨body, rfl, _⟩ := fit_rows u22 (fun k' hk ys hy => ih k' (by omega) ys hy) g9
    obtain ⟨els, rfl, _⟩ := fit_rows u22 (fun k' hk ys hy => ih k' (by omega) ys hy) g10
    obtain ⟨arms, rfl, _⟩ := fit_rows (φ := Arm.cells) u33 (fun k' hk ys hy => by
      obtain ⟨k2, h2, d1, e1, rfl, f1, d2, e2, rfl, f2, rfl⟩ := fit_struct s38 hy
      obtain ⟨ls, rfl⟩ := fit_ints f1
      obtain ⟨bd, rfl, _⟩ := fit_rows u22 (fun k' hk ys hy => ih k' (by omega) ys hy) f2
      exact ⟨.mk ls bd, by simp [Arm.cells, St.rows_map]⟩) g11
    exact ⟨.mk n1 n2 n3 n4 e i l args body els arms, by
      rw [Ex.cells_eq e, Ex.cells_eq i]
      simp [St.cells, St.rows_map, Ex.rows_map, Arm.rows_map, Arg.rows]⟩
theorem fit_sts {k : Nat} {xs : List AV} (h : Fit Try.prog k 22 xs) : ∃ l : List St, xs = [.sl .no (St.rows l)] := by
  obtain ⟨l, rfl, _⟩ := fit_rows u22 (fun k' hk ys hy => fit_st k' ys hy) h
  exact ⟨l, by rw [St.rows_map]⟩
end Go.Proofs.Ytafhiicjmlkhcaa
