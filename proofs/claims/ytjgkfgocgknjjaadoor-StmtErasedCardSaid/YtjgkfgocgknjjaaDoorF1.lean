/- Opening of what is handed: expressions, scopes' parts, programs, cases. -/
import Derived.Test.YtjgkfgocgknjjaaDoorD3
import Derived.Test.YtjgkfgocgknjjaaDoorA19
import Derived.Test.YtjgkfgocgknjjaaDoorProg
import Derived.KernelRfl
set_option linter.unusedVariables false
set_option linter.unusedSimpArgs false
namespace Go.Proofs.YtjgkfgocgknjjaaDoor
open Go Go.RowKit Go.Proofs.YtjgkfgocgknjjaaDoor.Abs

theorem u_int : Tryd.prog.underlying 3 = some (.int .i64) := by kernel_rfl
theorem u_str : Tryd.prog.underlying 9 = some .string := by kernel_rfl
theorem u_exprs : Tryd.prog.underlying 43 = some (.slice 45) := by kernel_rfl
theorem u_ints : Tryd.prog.underlying 36 = some (.slice 3) := by kernel_rfl
theorem u_vars : Tryd.prog.underlying 29 = some (.slice 60) := by kernel_rfl
theorem u_blocks : Tryd.prog.underlying 30 = some (.slice 62) := by kernel_rfl
theorem u_units : Tryd.prog.underlying 31 = some (.slice 66) := by kernel_rfl
theorem u_consts : Tryd.prog.underlying 28 = some (.slice 127) := by kernel_rfl
theorem u_instrs : Tryd.prog.underlying 64 = some (.slice 129) := by kernel_rfl
theorem s_expr : structTypes Tryd.prog 45 = some [3, 3, 3, 3, 43] := by kernel_rfl
theorem s_var : structTypes Tryd.prog 60 = some [9, 3, 3, 3, 3] := by kernel_rfl
theorem s_block : structTypes Tryd.prog 62 = some [9, 3] := by kernel_rfl
theorem s_unit : structTypes Tryd.prog 66 = some [9, 36, 3, 36, 64] := by kernel_rfl
theorem s_prog : structTypes Tryd.prog 33 = some [28, 29, 30, 31] := by kernel_rfl
theorem wf_i64 {n : Int} (h : (Lit.int .i64 n).wf = true) : I64 n := by
  simp [Lit.wf, IntKind.min, IntKind.max, IntKind.signed, IntKind.bits] at h
  exact h
theorem fit_rawrows {P : Program} {k : Nat} {t e : TypeId} {xs : List AV} (hu : P.underlying t = some (.slice e)) (h : Fit P k t xs) : ∃ l : List (List AV), xs = [.sl .no l] := by
  cases k with
  | zero => exact h.elim
  | succ k => simp only [Fit, hu] at h; obtain ⟨rows, rfl, _⟩ := h; exact ⟨rows, rfl⟩
theorem Ex.rows_map : ∀ l : List Ex, Ex.rows l = l.map Ex.cells
  | [] => by simp [Ex.rows]
  | x :: r => by simp [Ex.rows, Ex.rows_map r]
theorem Ex.wfL_of : ∀ {l : List Ex}, (∀ x ∈ l, x.wf) → Ex.wfL l
  | [], _ => trivial
  | x :: r, h => ⟨h x (by simp), Ex.wfL_of fun y hy => h y (by simp [hy])⟩
theorem fit_ex : ∀ (k : Nat) (xs : List AV), Fit Tryd.prog k 45 xs → ∃ e : Ex, xs = e.cells ∧ e.wf := by
  intro k
  induction k using Nat.strongRecOn with
  | _ k ih =>
    intro xs h
    obtain ⟨k1, h1, a, b, rfl, ha, a2, b2, rfl, ha2, a3, b3, rfl, ha3, a4, b4, rfl, ha4, a5, b5, rfl, ha5, rfl⟩ := fit_struct s_expr h
    obtain ⟨n1, rfl, w1⟩ := fit_int u_int ha
    obtain ⟨n2, rfl, w2⟩ := fit_int u_int ha2
    obtain ⟨n3, rfl, w3⟩ := fit_int u_int ha3
    obtain ⟨n4, rfl, w4⟩ := fit_int u_int ha4
    obtain ⟨l, rfl, _⟩ := fit_rows (φ := fun x : {e : Ex // e.wf} => x.1.cells) u_exprs (fun k' hk ys hy => by obtain ⟨e, he, hw⟩ := ih k' (by omega) ys hy; exact ⟨⟨e, hw⟩, he⟩) ha5
    refine ⟨.mk n1 n2 n3 n4 (l.map (·.1)), by simp [Ex.cells, Ex.rows_map], ?_⟩
    rw [Ex.wf]
    refine ⟨wf_i64 w1, wf_i64 w2, wf_i64 w3, wf_i64 w4, Ex.wfL_of ?_⟩
    intro x hx
    obtain ⟨y, _, rfl⟩ := List.mem_map.1 hx
    exact y.2
theorem fit_ints {k : Nat} {xs : List AV} (h : Fit Tryd.prog k 36 xs) : ∃ l : List Int, xs = [.sl .no (intRows l)] := by
  obtain ⟨l, rfl, _⟩ := fit_rows (φ := fun n : Int => [AV.int .i64 n]) u_ints (fun k' hk ys hy => by obtain ⟨n, h, _⟩ := fit_int u_int hy; exact ⟨n, h⟩) h
  exact ⟨l, rfl⟩
theorem fit_vars {k : Nat} {xs : List AV} (h : Fit Tryd.prog k 29 xs) : ∃ l : List Vr, xs = [.sl .no (Vr.rows l)] := by
  obtain ⟨l, rfl, _⟩ := fit_rows (φ := Vr.cells) u_vars (fun k' hk ys hy => by
    obtain ⟨k1, h1, a, b, rfl, ha, a2, b2, rfl, ha2, a3, b3, rfl, ha3, a4, b4, rfl, ha4, a5, b5, rfl, ha5, rfl⟩ := fit_struct s_var hy
    obtain ⟨n1, rfl, _⟩ := fit_str u_str ha
    obtain ⟨n2, rfl, _⟩ := fit_int u_int ha2
    obtain ⟨n3, rfl, _⟩ := fit_int u_int ha3
    obtain ⟨n4, rfl, _⟩ := fit_int u_int ha4
    obtain ⟨n5, rfl, _⟩ := fit_int u_int ha5
    exact ⟨⟨n1, n2, n3, n4, n5⟩, rfl⟩) h
  exact ⟨l, rfl⟩
theorem fit_blocks {k : Nat} {xs : List AV} (h : Fit Tryd.prog k 30 xs) : ∃ l : List Bk, xs = [.sl .no (Bk.rows l)] := by
  obtain ⟨l, rfl, _⟩ := fit_rows (φ := Bk.cells) u_blocks (fun k' hk ys hy => by
    obtain ⟨k1, h1, a, b, rfl, ha, a2, b2, rfl, ha2, rfl⟩ := fit_struct s_block hy
    obtain ⟨n1, rfl, _⟩ := fit_str u_str ha
    obtain ⟨n2, rfl, _⟩ := fit_int u_int ha2
    exact ⟨⟨n1, n2⟩, rfl⟩) h
  exact ⟨l, rfl⟩
theorem fit_units {k : Nat} {xs : List AV} (h : Fit Tryd.prog k 31 xs) : ∃ l : List Un, xs = [.sl .no (Un.rows l)] := by
  obtain ⟨l, rfl, _⟩ := fit_rows (φ := Un.cells) u_units (fun k' hk ys hy => by
    obtain ⟨k1, h1, a, b, rfl, ha, a2, b2, rfl, ha2, a3, b3, rfl, ha3, a4, b4, rfl, ha4, a5, b5, rfl, ha5, rfl⟩ := fit_struct s_unit hy
    obtain ⟨n1, rfl, _⟩ := fit_str u_str ha
    obtain ⟨n2, rfl⟩ := fit_ints ha2
    obtain ⟨n3, rfl, _⟩ := fit_int u_int ha3
    obtain ⟨n4, rfl⟩ := fit_ints ha4
    obtain ⟨n5, rfl⟩ := fit_rawrows u_instrs ha5
    exact ⟨⟨n1, n2, n3, n4, n5⟩, rfl⟩) h
  exact ⟨l, rfl⟩
theorem fit_pg {k : Nat} {xs : List AV} (h : Fit Tryd.prog k 33 xs) : ∃ p : Pg, xs = p.cells := by
  obtain ⟨k1, h1, a, b, rfl, ha, a2, b2, rfl, ha2, a3, b3, rfl, ha3, a4, b4, rfl, ha4, rfl⟩ := fit_struct s_prog h
  obtain ⟨n1, rfl⟩ := fit_rawrows u_consts ha
  obtain ⟨n2, rfl⟩ := fit_vars ha2
  obtain ⟨n3, rfl⟩ := fit_blocks ha3
  obtain ⟨n4, rfl⟩ := fit_units ha4
  exact ⟨⟨n1, n2, n3, n4⟩, rfl⟩
end Go.Proofs.YtjgkfgocgknjjaaDoor
