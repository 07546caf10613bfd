/- Opening of what is handed: networks. -/
import Derived.Test.YtmilcpmhdokhgaaDoorF1
import Derived.Test.YtmilcpmhdokhgaaDoorD4
set_option linter.unusedVariables false
set_option linter.unusedSimpArgs false
namespace Go.Proofs.YtmilcpmhdokhgaaDoor
open Go Go.RowKit Go.Proofs.YtmilcpmhdokhgaaDoor.Abs

theorem u_nets : Tryd.prog.underlying 52 = some (.slice 54) := by kernel_rfl
theorem s_net : structTypes Tryd.prog 54 = some [3, 3, 37, 52] := by kernel_rfl
theorem fit_net : ∀ (k : Nat) (xs : List AV), Fit Tryd.prog k 54 xs → ∃ e : Nt, xs = e.cells ∧ e.wf := by
  intro k
  induction k using Nat.strongRecOn with
  | _ k ih =>
    intro xs h
    obtain ⟨k1, h1, a, b, rfl, ha, a2, b2, rfl, ha2, a3, b3, rfl, ha3, a4, b4, rfl, ha4, rfl⟩ := fit_struct s_net h
    obtain ⟨n1, rfl, w1⟩ := fit_int u_int ha
    obtain ⟨n2, rfl, w2⟩ := fit_int u_int ha2
    obtain ⟨e, rfl, w3⟩ := fit_ex _ _ ha3
    obtain ⟨l, rfl, _⟩ := fit_rows (φ := fun x : {e : Nt // e.wf} => x.1.cells) u_nets (fun k' hk ys hy => by obtain ⟨e, he, hw⟩ := ih k' (by omega) ys hy; exact ⟨⟨e, hw⟩, he⟩) ha4
    refine ⟨.mk n1 n2 e (l.map (·.1)), by simp [Nt.cells, Nt.rows_map, Ex.cells_eq e], ?_⟩
    rw [Nt.wf]
    refine ⟨wf_i64 w1, wf_i64 w2, w3, Nt.wfL_of ?_⟩
    intro x hx
    obtain ⟨y, _, rfl⟩ := List.mem_map.1 hx
    exact y.2
end Go.Proofs.YtmilcpmhdokhgaaDoor
