/- Right: any statements. -/
import Derived.Test.YtjgkfgocgknjjaaDoorU12
set_option linter.unusedVariables false
set_option linter.unusedSimpArgs false
namespace Go.Proofs.YtjgkfgocgknjjaaDoor
open Go Go.RowKit Go.Proofs.YtjgkfgocgknjjaaDoor.Abs

def labB : List Int → Int → List Int → Bool
  | _, _, [] => true
  | met, last, n :: r => decide (last < n ∧ n ≤ 255 ∧ ¬ n ∈ met) && labB (n :: met) n r
def St.t0 (s : Sc) (x : St) : Int := if x.e.op = 0 then 0 else x.e.ty s
def St.head (x : St) : Bool := decide (0 ≤ x.cost ∧ x.cost ≤ 1048576) && x.beq x.bare
mutual
def St.okB (s : Sc) : St → Int → Bool
  | .mk kind cost n m e i l args body els arms, loop =>
    St.head (.mk kind cost n m e i l args body els arms) &&
    (if kind = 0 ∨ kind = 14 then true else if kind = 12 then decide (loop ≠ 0) else if kind = 13 then decide (loop = 1)
    else if kind = 7 then decide (St.t0 s (.mk kind cost n m e i l args body els arms) = 1) && St.okL s body loop && St.okL s els loop
    else if kind = 8 then decide (St.t0 s (.mk kind cost n m e i l args body els arms) = 1) && St.okL s body 1
    else if kind = 9 then decide (cost = 0) && St.okL s body 1
    else if kind = 10 then decide (St.t0 s (.mk kind cost n m e i l args body els arms) = 1) && St.okL s body 2
    else if kind = 11 then decide (St.t0 s (.mk kind cost n m e i l args body els arms) = 2) && Arm.okL s arms [] loop && St.okL s els loop
    else plainB s (.mk kind cost n m e i l args body els arms) (St.t0 s (.mk kind cost n m e i l args body els arms)))
def Arm.okB (s : Sc) : Arm → Int → Bool
  | .mk _ body, loop => St.okL s body loop
def St.okL (s : Sc) : List St → Int → Bool
  | [], _ => true
  | x :: r, loop => x.okB s loop && St.okL s r loop
def Arm.okL (s : Sc) : List Arm → List Int → Int → Bool
  | [], _, _ => true
  | a :: r, met, loop => (labB met (-1) a.labels && decide (0 < a.labels.length)) && a.okB s loop && Arm.okL s r (a.labels.reverse ++ met) loop
end
theorem St.okB_eq (s : Sc) (x : St) (loop : Int) : x.okB s loop = (x.head && (if x.kind = 0 ∨ x.kind = 14 then true else if x.kind = 12 then decide (loop ≠ 0) else if x.kind = 13 then decide (loop = 1)
    else if x.kind = 7 then decide (x.t0 s = 1) && St.okL s x.body loop && St.okL s x.els loop
    else if x.kind = 8 then decide (x.t0 s = 1) && St.okL s x.body 1
    else if x.kind = 9 then decide (x.cost = 0) && St.okL s x.body 1
    else if x.kind = 10 then decide (x.t0 s = 1) && St.okL s x.body 2
    else if x.kind = 11 then decide (x.t0 s = 2) && Arm.okL s x.arms [] loop && St.okL s x.els loop
    else plainB s x (x.t0 s))) := by
  cases x; simp only [St.okB]; rfl
theorem Arm.okB_eq (s : Sc) (x : Arm) (loop : Int) : x.okB s loop = St.okL s x.body loop := by cases x; simp only [Arm.okB]; rfl
mutual
def St.wf : St → Prop
  | .mk _ _ _ _ e i l args body els arms => e.wf ∧ i.wf ∧ Ex.wfL l ∧ Arg.wfL args ∧ St.wfL body ∧ St.wfL els ∧ Arm.wfL arms
def Arm.wf : Arm → Prop
  | .mk _ body => St.wfL body
def St.wfL : List St → Prop
  | [] => True
  | x :: r => x.wf ∧ St.wfL r
def Arm.wfL : List Arm → Prop
  | [] => True
  | x :: r => x.wf ∧ Arm.wfL r
end
theorem St.wf_eq (x : St) : x.wf = (x.e.wf ∧ x.i.wf ∧ Ex.wfL x.l ∧ Arg.wfL x.args ∧ St.wfL x.body ∧ St.wfL x.els ∧ Arm.wfL x.arms) := by cases x; rw [St.wf]; rfl
theorem Arm.wf_eq (x : Arm) : x.wf = St.wfL x.body := by cases x; rw [Arm.wf]; rfl
theorem St.wf_mem : ∀ {l : List St} {i : Nat} (h : i < l.length), St.wfL l → (l[i]).wf
  | [], i, h, _ => by simp at h
  | x :: r, 0, h, w => by rw [St.wfL] at w; exact w.1
  | x :: r, i + 1, h, w => by rw [St.wfL] at w; exact St.wf_mem (l := r) (by simpa using h) w.2
theorem Arm.wf_mem : ∀ {l : List Arm} {i : Nat} (h : i < l.length), Arm.wfL l → (l[i]).wf
  | [], i, h, _ => by simp at h
  | x :: r, 0, h, w => by rw [Arm.wfL] at w; exact w.1
  | x :: r, i + 1, h, w => by rw [Arm.wfL] at w; exact Arm.wf_mem (l := r) (by simpa using h) w.2

set_option maxRecDepth 20000 in
set_option maxHeartbeats 8000000 in
theorem arms_ok (s : Sc) {k : Nat} (hk : k ≤ 600000000) (ih : ∀ (l : List St) (loop : Int), St.sizeL l < k → St.wfL l → PCall Tryd.prog 26 [.agg (s.pl loop), .sl .no (St.rows l)] (.bool (St.okL s l loop)))
    (l : List Arm) (loop : Int) (hl : Arm.sizeL l < k) (hw : Arm.wfL l) : PCall Tryd.prog 44 [.agg (s.pl loop), .sl .no (Arm.rows l)] (.bool (Arm.okL s l [] loop)) := by
  have hl2 := Arm.len_size l
  refine pcall_fn Code.ok44 (by simp [Code.f44]) fun H => ?_
  simp [Code.f44]
  intro g1 g2
  refine LoopK.told (σ := Nat × List Int) (fun z => [(13, .int .i64 z.1), (12, .int .i64 l.length), (11, .sl .no (Arm.rows l)), (2, .ptr H.length g1 0 0), (5, .ptr (H.length + 1) g2 0 0)])
    (fun z => H ++ [some (.rows g1 [s.pl loop]), some (.rows g2 [metC 256 z.2])])
    (fun z => z.1 ≤ l.length ∧ Arm.okL s l [] loop = Arm.okL s (l.drop z.1) z.2 loop) (fun z => l.length - z.1) (0, []) ?_ ?_ ?_ ?_
  · simp
  · simp
  · exact .refl _
  rintro ⟨i, met⟩ ⟨hi, hb⟩
  simp only at hi hb
  simp [Code.f44l0]
  refine ⟨fun h => ?_, fun h => ?_⟩
  · have hs := Arm.size_mem h
    have hse := Arm.size_eq l[i]
    have hwe := Arm.wf_mem h hw
    have hg := List.getElem?_eq_getElem h
    rw [List.drop_eq_getElem_cons h, Arm.okL] at hb
    generalize l[i] = a at hs hse hwe hg hb
    rw [Arm.wf_eq] at hwe
    simp [hg]
    intro g4
    refine LoopK.told (σ := Nat × List Int × Int) (fun z => [(20, .int .i64 z.1), (19, .int .i64 a.labels.length), (18, .sl .no (intRows a.labels)), (8, .int .i64 z.2.2), (7, .ptr (H.length + 2) g4 0 0), (13, .int .i64 i), (12, .int .i64 l.length), (11, .sl .no (Arm.rows l)), (2, .ptr H.length g1 0 0), (5, .ptr (H.length + 1) g2 0 0)])
      (fun z => H ++ [some (.rows g1 [s.pl loop]), some (.rows g2 [metC 256 z.2.1]), some (.rows g4 [a.cells])])
      (fun z => z.1 ≤ a.labels.length ∧ labB met (-1) a.labels = labB z.2.1 z.2.2 (a.labels.drop z.1) ∧ z.2.1 = (a.labels.take z.1).reverse ++ met ∧ (z.1 = 0 ∧ z.2.2 = -1 ∨ 0 < z.1 ∧ 0 ≤ z.2.2 ∧ z.2.2 ≤ 255)) (fun z => a.labels.length - z.1) (0, met, -1) ?_ ?_ ?_ ?_
    · simp
    · simp
    · simp
    rintro ⟨j, met', last⟩ ⟨hj, hb2, hm', hla⟩
    simp only at hj hb2 hm' hla
    simp [Code.f44l1]
    refine ⟨fun hjl => ?_, fun hjl => ?_⟩
    · have hgj := List.getElem?_eq_getElem hjl
      have hjt := List.take_succ_eq_append_getElem hjl
      rw [List.drop_eq_getElem_cons hjl, labB] at hb2
      generalize a.labels[j] = n at hgj hjt hb2
      simp [hgj]
      by_cases h1 : n ≤ last
      · have h1' : ¬ last < n := by omega
        simp [h1, h1']
        rw [hb, hb2]; simp [h1']; exact vbd rfl
      have h1' : last < n := by omega
      by_cases h2 : 255 < n
      · have h2' : ¬ n ≤ 255 := by omega
        simp [h1, h1', h2, h2']
        rw [hb, hb2]; simp [h2']; exact vbd rfl
      have h3 : 0 ≤ n := by omega
      have h4 : n ≤ 255 := by omega
      have h5 : n < 256 := by omega
      have hl : n.toNat < 256 := by omega
      have hmg := metC_get (n := 256) (met := met') h3 (by omega)
      have hmp := metC_put (n := 256) (met := met') h3 (by omega)
      have hm2 : (metC 256 met')[n.toNat]'(by simpa using hl) = .bool (decide (n ∈ met')) := by
        rw [List.getElem?_eq_getElem (by simpa using hl)] at hmg; exact Option.some.inj hmg
      by_cases h6 : n ∈ met'
      · simp [h1, h1', h2, h3, h4, h5, hl, hm2, h6]
        rw [hb, hb2]; simp [h6]; exact vbd rfl
      simp [h1, h1', h2, h3, h4, h5, hl, hm2, h6, hmp]
      refine ⟨j + 1, n :: met', n, ⟨by omega, ?_, ?_, by omega⟩, by omega, ⟨wkn_int (wrap_id (by omega) (by omega)), .refl _⟩, .refl _⟩
      · rw [hb2]; simp [h1', h4, h6]
      · rw [hm', hjt]; simp
    · rw [List.drop_eq_nil_of_le hjl, labB] at hb2
      rw [List.take_of_length_le hjl] at hm'
      by_cases h1 : last < 0
      · have h2 : ¬ 0 < a.labels.length := by omega
        have h1' : ¬ 0 ≤ last := by omega
        simp [h1, h1']
        rw [hb, hb2]; simp [h2]; exact vbd rfl
      have h2 : 0 < a.labels.length := by omega
      have h1' : 0 ≤ last := by omega
      simp [h1, h1']
      refine CallK.pure (ih a.body loop (by omega) hwe) ?_
      rw [Arm.okB_eq] at hb
      cases h3 : St.okL s a.body loop
      · simp; rw [hb, h3]; exact vbd (by simp)
      simp
      refine ⟨i + 1, met', ⟨by omega, ?_⟩, by omega, wkn_int (wrap_id (by omega) (by omega)), hwk_app (by simp)⟩
      rw [hb, hb2, h3, hm']; simp [h2]
  · rw [hb, List.drop_eq_nil_of_le h, Arm.okL]
    exact vbd rfl

set_option maxRecDepth 20000 in
set_option maxHeartbeats 8000000 in
theorem rone_ok (s : Sc) {k : Nat} (hk : k ≤ 600000000) (ih : ∀ (l : List St) (loop : Int), St.sizeL l < k → St.wfL l → PCall Tryd.prog 26 [.agg (s.pl loop), .sl .no (St.rows l)] (.bool (St.okL s l loop)))
    (x : St) (loop : Int) (hx : x.size < k + 1) (hw : x.wf) : PCall Tryd.prog 39 [.agg (s.pl loop), .agg x.cells] (.bool (x.okB s loop)) := by
  have hsz := St.size_eq x
  have := x.e.size_pos
  rw [St.wf_eq] at hw
  obtain ⟨w1, w2, w3, w4, w5, w6, w7⟩ := hw
  refine pcall_fn Code.ok39 (by simp [Code.f39]) fun H => ?_
  rw [St.okB_eq]
  by_cases h1 : x.cost < 0
  · have h1' : ¬ 0 ≤ x.cost := by omega
    simp [Code.f39, h1]
    intro g1 g2
    exact vbd (by simp [St.head, h1'])
  by_cases h2 : 1048576 < x.cost
  · have h2' : ¬ x.cost ≤ 1048576 := by omega
    simp [Code.f39, h1, h2]
    intro g1 g2
    exact vbd (by simp [St.head, h2'])
  have h1' : 0 ≤ x.cost := by omega
  have h2' : x.cost ≤ 1048576 := by omega
  simp [Code.f39, h1, h2]
  intro g1 g2
  refine PCallK.pure (bare_ok x) ?_
  simp
  refine PCallK.pure (ones_ok (k := k) (fun l m h => same_ok 800000000 (by omega) l m (by omega)) (by omega) x x.bare hx) ?_
  cases h3 : x.beq x.bare
  · simp; exact vbd (by simp [St.head, h3])
  have hh : x.head = true := by simp [St.head, h1', h2', h3]
  rw [hh]
  simp
  by_cases ho : x.e.op = 0
  · have ht : x.t0 s = 0 := by rw [St.t0, if_pos ho]
    simp [ho]
    by_cases k0 : x.kind = 0
    · simp [k0]; exact vbd rfl
    by_cases k14 : x.kind = 14
    · simp [k14]; exact vbd rfl
    by_cases k12 : x.kind = 12
    · simp [k12]; exact vbd rfl
    by_cases k13 : x.kind = 13
    · simp [k13]; exact vbd rfl
    by_cases k7 : x.kind = 7
    · simp [k7, ht]; exact vbd rfl
    by_cases k8 : x.kind = 8
    · simp [k8, ht]; exact vbd rfl
    by_cases k9 : x.kind = 9
    · by_cases hc : x.cost = 0
      rotate_left
      · simp [k9, hc]; exact vbd rfl
      simp [k9, hc]
      refine PCallK.pure (in_ok s loop 1) ?_
      simp
      refine PCallK.pure (ih x.body 1 (by omega) w5) ?_
      simp; exact vbd (by simp [k9, ht, hc])
    by_cases k10 : x.kind = 10
    · simp [k10, ht]; exact vbd rfl
    by_cases k11 : x.kind = 11
    · simp [k11, ht]; exact vbd rfl
    simp [k0, k14, k12, k13, k7, k8, k9, k10, k11, ht]
    refine CallK.pure (plain_ok s loop x 0 (by omega) w1 w2 w3 w4) ?_
    simp; exact vbd (by simp [k0, k14, k12, k13, k7, k8, k9, k10, k11, ht])
  · simp [ho]
    refine CallK.pure (type_ok s _ (Nat.le_refl _) x.e (by omega) w1) ?_
    have ht : x.t0 s = x.e.ty s := by rw [St.t0, if_neg ho]
    simp
    by_cases k0 : x.kind = 0
    · simp [k0]; exact vbd rfl
    by_cases k14 : x.kind = 14
    · simp [k14]; exact vbd rfl
    by_cases k12 : x.kind = 12
    · simp [k12]; exact vbd rfl
    by_cases k13 : x.kind = 13
    · simp [k13]; exact vbd rfl
    by_cases k7 : x.kind = 7
    · by_cases hT : x.e.ty s = 1
      rotate_left
      · simp [k7, ht, hT]; exact vbd rfl
      simp [k7, ht, hT]
      refine CallK.pure (ih x.body loop (by omega) w5) ?_
      cases h4 : St.okL s x.body loop
      · simp; exact vbd (by simp [k7, ht, hT, h4])
      simp
      refine CallK.pure (ih x.els loop (by omega) w6) ?_
      simp; exact vbd (by simp [k7, ht, hT, h4])
    by_cases k8 : x.kind = 8
    · by_cases hT : x.e.ty s = 1
      rotate_left
      · simp [k8, ht, hT]; exact vbd rfl
      simp [k8, ht, hT]
      refine PCallK.pure (in_ok s loop 1) ?_
      simp
      refine PCallK.pure (ih x.body 1 (by omega) w5) ?_
      simp; exact vbd (by simp [k8, ht, hT])
    by_cases k9 : x.kind = 9
    · by_cases hc : x.cost = 0
      rotate_left
      · simp [k9, hc]; exact vbd rfl
      simp [k9, hc]
      refine PCallK.pure (in_ok s loop 1) ?_
      simp
      refine PCallK.pure (ih x.body 1 (by omega) w5) ?_
      simp; exact vbd (by simp [k9, ht, hc])
    by_cases k10 : x.kind = 10
    · by_cases hT : x.e.ty s = 1
      rotate_left
      · simp [k10, ht, hT]; exact vbd rfl
      simp [k10, ht, hT]
      refine PCallK.pure (in_ok s loop 2) ?_
      simp
      refine PCallK.pure (ih x.body 2 (by omega) w5) ?_
      simp; exact vbd (by simp [k10, ht, hT])
    by_cases k11 : x.kind = 11
    · by_cases hT : x.e.ty s = 2
      rotate_left
      · simp [k11, ht, hT]; exact vbd rfl
      simp [k11, ht, hT]
      refine CallK.pure (arms_ok s hk ih x.arms loop (by omega) w7) ?_
      cases h4 : Arm.okL s x.arms [] loop
      · simp; exact vbd (by simp [k11, ht, hT, h4])
      simp
      refine CallK.pure (ih x.els loop (by omega) w6) ?_
      simp; exact vbd (by simp [k11, ht, hT, h4])
    simp [k0, k14, k12, k13, k7, k8, k9, k10, k11, ht]
    refine CallK.pure (plain_ok s loop x _ (by omega) w1 w2 w3 w4) ?_
    simp; exact vbd (by simp [k0, k14, k12, k13, k7, k8, k9, k10, k11, ht])

set_option maxRecDepth 20000 in
set_option maxHeartbeats 4000000 in
theorem all_ok (s : Sc) : ∀ (k : Nat), k ≤ 600000000 → ∀ (l : List St) (loop : Int), St.sizeL l < k → St.wfL l → PCall Tryd.prog 26 [.agg (s.pl loop), .sl .no (St.rows l)] (.bool (St.okL s l loop)) := by
  intro k
  induction k with
  | zero => intro _ l loop h; omega
  | succ k ih =>
  intro hk l loop hl hw
  have hlen := St.len_size l
  refine pcall_fn Code.ok26 (by simp [Code.f26]) fun H => ?_
  simp [Code.f26]
  intro g1
  refine LoopK.told (σ := Nat) (fun z => [(9, .int .i64 z), (8, .int .i64 l.length), (7, .sl .no (St.rows l)), (2, .ptr H.length g1 0 0)])
    (fun z => H ++ [some (.rows g1 [s.pl loop])])
    (fun z => z ≤ l.length ∧ St.okL s l loop = St.okL s (l.drop z) loop) (fun z => l.length - z) 0 ?_ ?_ ?_ ?_
  · simp
  · simp
  · simp
  rintro i ⟨hi, hb⟩
  simp [Code.f26l0]
  refine ⟨fun h => ?_, fun h => ?_⟩
  · have hs := St.size_mem h
    have hwe := St.wf_mem h hw
    have hg := List.getElem?_eq_getElem h
    rw [List.drop_eq_getElem_cons h, St.okL] at hb
    generalize l[i] = a at hs hwe hg hb
    simp [hg]
    intro g4
    refine CallK.pure (rone_ok s (k := k) (by omega) (ih (by omega)) a loop (by omega) hwe) ?_
    cases h3 : a.okB s loop
    · simp; rw [hb, h3]; exact vbd (by simp)
    simp
    refine ⟨i + 1, ⟨by omega, ?_⟩, by omega, wkn_int (wrap_id (by omega) (by omega)), hwk_app (by simp)⟩
    rw [hb, h3]; simp
  · rw [hb, List.drop_eq_nil_of_le h, St.okL]
    exact vbd rfl
theorem right_ok (s : Sc) (l : List St) (hl : St.sizeL l < 600000000) (hw : St.wfL l) : PCall Tryd.prog 17 [.agg s.cells, .sl .no (St.rows l)] (.bool (St.okL s l 0)) := by
  refine pcall_fn Code.ok17 (by simp [Code.f17]) fun H => ?_
  simp [Code.f17]
  intro g1
  refine CallK.pure (all_ok s 600000000 (by omega) l 0 hl hw) ?_
  simp
  exact vbd rfl
end Go.Proofs.YtjgkfgocgknjjaaDoor
