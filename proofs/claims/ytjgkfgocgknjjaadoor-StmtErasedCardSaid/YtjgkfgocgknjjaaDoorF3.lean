/- Opening of what is handed: statements. -/
import Derived.Test.YtjgkfgocgknjjaaDoorF1
import Derived.Test.YtjgkfgocgknjjaaDoorU13
set_option linter.unusedVariables false
set_option linter.unusedSimpArgs false
namespace Go.Proofs.YtjgkfgocgknjjaaDoor
open Go Go.RowKit Go.Proofs.YtjgkfgocgknjjaaDoor.Abs

theorem u_args : Tryd.prog.underlying 46 = some (.slice 53) := by kernel_rfl
theorem u_arms : Tryd.prog.underlying 47 = some (.slice 55) := by kernel_rfl
theorem u_stmts : Tryd.prog.underlying 22 = some (.slice 49) := by kernel_rfl
theorem s_arg : structTypes Tryd.prog 53 = some [3, 45] := by kernel_rfl
theorem s_arm : structTypes Tryd.prog 55 = some [36, 22] := by kernel_rfl
theorem s_stmt : structTypes Tryd.prog 49 = some [3, 3, 3, 3, 45, 45, 43, 46, 22, 22, 47] := by kernel_rfl
theorem St.rows_map : ∀ l : List St, St.rows l = l.map St.cells
  | [] => by simp [St.rows]
  | x :: r => by simp [St.rows, St.rows_map r]
theorem Arm.rows_map : ∀ l : List Arm, Arm.rows l = l.map Arm.cells
  | [] => by simp [Arm.rows]
  | x :: r => by simp [Arm.rows, Arm.rows_map r]
theorem St.wfL_of : ∀ {l : List St}, (∀ x ∈ l, x.wf) → St.wfL l
  | [], _ => by rw [St.wfL]; trivial
  | x :: r, h => by rw [St.wfL]; exact ⟨h x (by simp), St.wfL_of fun y hy => h y (by simp [hy])⟩
theorem Arm.wfL_of : ∀ {l : List Arm}, (∀ x ∈ l, x.wf) → Arm.wfL l
  | [], _ => by rw [Arm.wfL]; trivial
  | x :: r, h => by rw [Arm.wfL]; exact ⟨h x (by simp), Arm.wfL_of fun y hy => h y (by simp [hy])⟩
theorem Arg.wfL_of : ∀ {l : List Arg}, (∀ x ∈ l, x.e.wf) → Arg.wfL l
  | [], _ => trivial
  | x :: r, h => ⟨h x (by simp), Arg.wfL_of fun y hy => h y (by simp [hy])⟩
theorem fit_exs {k : Nat} {xs : List AV} (h : Fit Tryd.prog k 43 xs) : ∃ l : List Ex, xs = [.sl .no (Ex.rows l)] ∧ Ex.wfL l := by
  obtain ⟨l, rfl, _⟩ := fit_rows (φ := fun x : {e : Ex // e.wf} => x.1.cells) u_exprs (fun k' hk ys hy => by obtain ⟨e, he, hw⟩ := fit_ex k' ys hy; exact ⟨⟨e, hw⟩, he⟩) h
  refine ⟨l.map (·.1), by simp [Ex.rows_map], Ex.wfL_of fun x hx => ?_⟩
  obtain ⟨y, _, rfl⟩ := List.mem_map.1 hx
  exact y.2
theorem fit_args {k : Nat} {xs : List AV} (h : Fit Tryd.prog k 46 xs) : ∃ l : List Arg, xs = [.sl .no (Arg.rows l)] ∧ Arg.wfL l := by
  obtain ⟨l, rfl, _⟩ := fit_rows (φ := fun x : {e : Arg // e.e.wf} => x.1.cells) u_args (fun k' hk ys hy => by
    obtain ⟨k1, h1, a, b, rfl, ha, a2, b2, rfl, ha2, rfl⟩ := fit_struct s_arg hy
    obtain ⟨n1, rfl, w1⟩ := fit_int u_int ha
    obtain ⟨e, rfl, w3⟩ := fit_ex _ _ ha2
    exact ⟨⟨⟨n1, e⟩, w3⟩, by simp [Arg.cells]⟩) h
  refine ⟨l.map (·.1), by simp [Arg.rows], Arg.wfL_of fun x hx => ?_⟩
  obtain ⟨y, _, rfl⟩ := List.mem_map.1 hx
  exact y.2
theorem fit_st : ∀ (k : Nat) (xs : List AV), Fit Tryd.prog k 49 xs → ∃ x : St, xs = x.cells ∧ x.wf := by
  intro k
  induction k using Nat.strongRecOn with
  | _ k ih =>
    intro xs h
    obtain ⟨k1, h1, a, b, rfl, ha, a2, b2, rfl, ha2, a3, b3, rfl, ha3, a4, b4, rfl, ha4, a5, b5, rfl, ha5, a6, b6, rfl, ha6, a7, b7, rfl, ha7, a8, b8, rfl, ha8, a9, b9, rfl, ha9, a10, b10, rfl, ha10, a11, b11, rfl, ha11, rfl⟩ := fit_struct s_stmt h
    have sts : ∀ (k' : Nat) (ys : List AV), k' < k → Fit Tryd.prog k' 22 ys → ∃ l : List St, ys = [.sl .no (St.rows l)] ∧ St.wfL l := by
      intro k' ys hk hy
      obtain ⟨l, rfl, _⟩ := fit_rows (φ := fun x : {e : St // e.wf} => x.1.cells) u_stmts (fun k2 hk2 zs hz => by obtain ⟨e, he, hw⟩ := ih k2 (by omega) zs hz; exact ⟨⟨e, hw⟩, he⟩) hy
      refine ⟨l.map (·.1), by simp [St.rows_map], St.wfL_of fun x hx => ?_⟩
      obtain ⟨y, _, rfl⟩ := List.mem_map.1 hx
      exact y.2
    obtain ⟨n1, rfl, w1⟩ := fit_int u_int ha
    obtain ⟨n2, rfl, w2⟩ := fit_int u_int ha2
    obtain ⟨n3, rfl, w3⟩ := fit_int u_int ha3
    obtain ⟨n4, rfl, w4⟩ := fit_int u_int ha4
    obtain ⟨e, rfl, w5⟩ := fit_ex _ _ ha5
    obtain ⟨i, rfl, w6⟩ := fit_ex _ _ ha6
    obtain ⟨el, rfl, w7⟩ := fit_exs ha7
    obtain ⟨al, rfl, w8⟩ := fit_args ha8
    obtain ⟨bl, rfl, w9⟩ := sts _ _ (by omega) ha9
    obtain ⟨ll, rfl, w10⟩ := sts _ _ (by omega) ha10
    obtain ⟨arms, rfl, _⟩ := fit_rows (φ := fun x : {e : Arm // e.wf} => x.1.cells) u_arms (fun k2 hk2 zs hz => by
      obtain ⟨k3, h3, c, d, rfl, hc, c2, d2, rfl, hc2, rfl⟩ := fit_struct s_arm hz
      obtain ⟨lb, rfl⟩ := fit_ints hc
      obtain ⟨bd, rfl, wb⟩ := sts _ _ (by omega) hc2
      exact ⟨⟨.mk lb bd, by rw [Arm.wf]; exact wb⟩, by simp [Arm.cells]⟩) ha11
    refine ⟨.mk n1 n2 n3 n4 e i el al bl ll (arms.map (·.1)), by simp [St.cells, Arm.rows_map, Ex.cells_eq e, Ex.cells_eq i], ?_⟩
    rw [St.wf]
    refine ⟨w5, w6, w7, w8, w9, w10, Arm.wfL_of ?_⟩
    intro x hx
    obtain ⟨y, _, rfl⟩ := List.mem_map.1 hx
    exact y.2
theorem fit_stmts {k : Nat} {xs : List AV} (h : Fit Tryd.prog k 22 xs) : ∃ l : List St, xs = [.sl .no (St.rows l)] ∧ St.wfL l := by
  obtain ⟨l, rfl, _⟩ := fit_rows (φ := fun x : {e : St // e.wf} => x.1.cells) u_stmts (fun k2 hk2 zs hz => by obtain ⟨e, he, hw⟩ := fit_st k2 zs hz; exact ⟨⟨e, hw⟩, he⟩) h
  refine ⟨l.map (·.1), by simp [St.rows_map], St.wfL_of fun x hx => ?_⟩
  obtain ⟨y, _, rfl⟩ := List.mem_map.1 hx
  exact y.2
end Go.Proofs.YtjgkfgocgknjjaaDoor
