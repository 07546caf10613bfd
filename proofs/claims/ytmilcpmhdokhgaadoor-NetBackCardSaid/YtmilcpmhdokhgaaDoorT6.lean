/- The laws of networks, walked. -/
import Derived.Test.YtmilcpmhdokhgaaDoorT5
set_option linter.unusedVariables false
set_option linter.unusedSimpArgs false
namespace Go.Proofs.YtmilcpmhdokhgaaDoor
open Go Go.RowKit Go.Proofs.YtmilcpmhdokhgaaDoor.Abs

theorem nil_vr' : Vr.rows [] = [] := rfl
theorem nil_bk' : Bk.rows [] = [] := rfl
def aw3 : Ex := .mk 3 0 0 0 []
def aw44 : Ex := .bin 14 aw3 (.bin 14 aw3 aw3)
def awS1 : Sc := ⟨[], [], [], [1]⟩
theorem aw3_ty : aw3.ty awS1 = 1 := by rw [aw3, Ex.ty_eq]; rfl
theorem aw3_leaf : aw3.leaf awS1 = true := by simp [Ex.leaf, aw3_ty]; simp [aw3, Ex.lop]
theorem aw3_nf : NF awS1 aw3 1 := by
  have hlf := aw3_leaf
  have hL := Ex.leaf_l hlf
  obtain ⟨h6, h7⟩ := leaf_op hlf
  refine ⟨by rw [Ex.nf_eq]; simp [Ex.leaf_one hlf, Ex.leaf_two hlf, hlf], ?_, ?_, by rw [Ex.okN_eq]; simp [h6, h7], by omega⟩
  · rw [Ex.norm_eq, normN]; simp [Ex.leaf_one hlf, Ex.leaf_two hlf]
  · have hd : aw3.dbl = false := by simp [Ex.dbl, h7]
    rw [Ex.many_eq]; simp [hL, hd, clamp]
theorem aw44_nf : NF awS1 aw44 3 := aw3_nf.bin (.inl rfl) (aw3_nf.bin (.inl rfl) aw3_nf)
theorem aw3_net : aw3.net = .mk 1 0 aw3 [] := by rw [Ex.net_eq, ofN]; simp [aw3]
theorem aw44_net : aw44.net = .mk 2 0 Ex.zero [.mk 1 0 aw3 [], .mk 1 0 aw3 [], .mk 1 0 aw3 []] := by
  have h : ∀ a b, (Ex.bin 14 a b).net = joinN 2 [a.net, b.net] := fun a b => by rw [Ex.net_eq, ofN]; simp [Ex.bin]
  rw [aw44, h, h, aw3_net]
  simp [joinN, Nt.flat]
theorem NF.cnt {s : Sc} {e : Ex} {n : Int} (h : NF s e n) (hn : n ≤ 24) : e.cnt s ≤ 24 := by
  have ht := Ex.nf_truth s e h.nf
  have hm := h.many
  rw [clamp, if_neg (by omega)] at hm
  rw [Ex.cnt_many, if_pos ⟨ht, by omega⟩]; omega
set_option maxRecDepth 20000 in
set_option maxHeartbeats 8000000 in
theorem awake44_ok : PCall Tryd.prog 20 [] (.bool true) := by
  refine pcall_fn Code.ok20 (by simp [Code.f20]) fun H => ?_
  simp [Code.f20]
  intro g1 g2
  refine CallK.wk (ys := [.agg awS1.cells, .agg aw44.cells]) ?_ ?_
  · simp [awS1, aw44, aw3, Ex.bin, Sc.cells, Ex.cells, Ex.rows, intRows, nil_vr', nil_bk']
  have hn := aw44_nf.norm
  refine CallK.pure (net_from awS1 aw44 (by decide) (bin_wf (.inl rfl) (by simp [aw3, Ex.wf, Ex.wfL, I64]) (bin_wf (.inl rfl) (by simp [aw3, Ex.wf, Ex.wfL, I64]) (by simp [aw3, Ex.wf, Ex.wfL, I64]))) (aw44_nf.cnt (by omega)) (by rw [hn]; decide) (by rw [hn]; exact aw44_nf.ok)) ?_
  rw [hn]
  have k1 : aw44.net.kind = 2 := by rw [aw44_net]; rfl
  have k2 : aw44.net.l.length = 3 := by rw [aw44_net]; rfl
  have k3 : aw44.net.con = 3 := by rw [aw44_net, Nt.con_eq]; simp [Nt.con_eq]
  have k4 : aw44.net.size < 1000 := by rw [aw44_net]; decide
  generalize aw44.net = nt at k1 k2 k3 k4 ⊢
  simp [k1, k2]
  intro g3
  refine CallK.pure (net_contacts _ (Nat.le_refl _) nt (by omega)) ?_
  simp [k3]
  exact vbd rfl
set_option maxRecDepth 20000 in
set_option maxHeartbeats 8000000 in
theorem netTells_law (c : Cs) (a b : Nt) (hwa : a.wf) : PCall Tryd.prog 4 [.agg c.cells, .agg a.cells, .agg b.cells] (.bool true) := by
  refine pcall_fn Code.ok4 (by simp [Code.f4]) fun H => ?_
  simp [Code.f4]
  intro g1 g2 g3
  have fin : ∀ {J : AHeap}, VShift (.bool true) (H ++ J) (.bool true) H := vbd rfl
  refine CallK.rel (fits27_ok c) ?_
  rintro _ ⟨bb, rfl, hb⟩
  cases bb
  · simp
    refine CallK.pure awake44_ok ?_
    simp
    exact fin
  have hp := hb rfl
  simp
  refine CallK.rel (few44_ok a 100 (by omega)) ?_
  rintro _ ⟨bb, rfl, hb⟩
  cases bb
  · simp
    refine CallK.pure awake44_ok ?_
    simp
    exact fin
  have hsa := hb rfl
  simp
  refine CallK.rel (few44_ok b 100 (by omega)) ?_
  rintro _ ⟨bb, rfl, hb⟩
  cases bb
  · simp
    refine CallK.pure awake44_ok ?_
    simp
    exact fin
  have hsb := hb rfl
  simp
  refine CallK.rel (scope17_ok _ hp _) ?_
  rintro _ ⟨s, rfl⟩
  simp
  intro g4
  refine PCallK.pure (net_right s _ (Nat.le_refl _) a (by omega) hwa) ?_
  simp
  refine PCallK.pure (r44_right s _ (Nat.le_refl _) a (by omega)) ?_
  simp
  refine PCallK.pure (net_contacts _ (Nat.le_refl _) a (by omega)) ?_
  simp
  refine PCallK.pure (r44_contacts _ (Nat.le_refl _) a (by omega)) ?_
  simp
  refine PCallK.pure (net_same _ (Nat.le_refl _) a b (by omega)) ?_
  simp
  refine PCallK.pure (r44_same _ (Nat.le_refl _) a b (by omega)) ?_
  simp
  refine PCallK.pure (net_same _ (Nat.le_refl _) a a (by omega)) ?_
  simp
  refine PCallK.pure awake44_ok ?_
  simp
  exact fin
set_option maxRecDepth 20000 in
set_option maxHeartbeats 8000000 in
theorem netBack_law (c : Cs) (a : Nt) (hwa : a.wf) : PCall Tryd.prog 5 [.agg c.cells, .agg a.cells] (.bool true) := by
  refine pcall_fn Code.ok5 (by simp [Code.f5]) fun H => ?_
  simp [Code.f5]
  intro g1 g2
  have fin : ∀ {J : AHeap}, VShift (.bool true) (H ++ J) (.bool true) H := vbd rfl
  refine CallK.rel (fits27_ok c) ?_
  rintro _ ⟨bb, rfl, hb⟩
  cases bb
  · simp
    refine CallK.pure awake44_ok ?_
    simp
    exact fin
  have hp := hb rfl
  simp
  refine CallK.rel (few44_ok a 100 (by omega)) ?_
  rintro _ ⟨bb, rfl, hb⟩
  cases bb
  · simp
    refine CallK.pure awake44_ok ?_
    simp
    exact fin
  have hsa := hb rfl
  simp
  refine CallK.rel (scope17_ok _ hp _) ?_
  rintro _ ⟨s, rfl⟩
  simp
  intro g3
  refine CallK.pure (net_right s _ (Nat.le_refl _) a (by omega) hwa) ?_
  cases hr : a.right s with
  | false =>
    simp
    refine CallK.pure awake44_ok ?_
    simp
    exact fin
  | true =>
  simp
  refine CallK.pure (net_contacts _ (Nat.le_refl _) a (by omega)) ?_
  simp
  refine ⟨fun hc => ?_, fun hc => ?_⟩
  · refine CallK.pure awake44_ok ?_
    simp
    exact fin
  have hnf := Nt.ex_nf s a hr
  have hsz := Nt.ex_size a
  have hn := hnf.norm
  refine CallK.pure (net_expr _ (Nat.le_refl _) a (by omega)) ?_
  simp
  intro g4
  refine CallK.pure (net_from s a.ex (by omega) (Nt.ex_wf a hwa) (hnf.cnt hc) (by rw [hn]; omega) (by rw [hn]; exact hnf.ok)) ?_
  rw [hn, Nt.ex_net s a hr]
  simp
  intro g5
  refine PCallK.pure (r44_expr s _ (Nat.le_refl _) a (by omega) hr) ?_
  simp
  refine PCallK.pure (same26_ok _ (Nat.le_refl _) a.ex a.ex (by omega)) ?_
  simp
  refine PCallK.pure (r44_same _ (Nat.le_refl _) a a (by omega)) ?_
  simp
  refine PCallK.pure awake44_ok ?_
  simp
  exact fin
end Go.Proofs.YtmilcpmhdokhgaaDoor
