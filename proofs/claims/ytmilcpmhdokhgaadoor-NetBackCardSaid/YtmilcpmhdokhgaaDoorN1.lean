/- Normal forms: leaves, shapes, what is in normal form. -/
import Derived.Test.YtmilcpmhdokhgaaDoorE2
import Derived.Test.YtmilcpmhdokhgaaDoorE3
set_option linter.unusedVariables false
set_option linter.unusedSimpArgs false
namespace Go.Proofs.YtmilcpmhdokhgaaDoor
open Go Go.RowKit Go.Proofs.YtmilcpmhdokhgaaDoor.Abs

theorem acallsH {P : Program} {f : Nat} {F : SFn} (hF : chkFn P f F = true) {args : List AV} {r : AV} {H : AHeap} (hn : args.length ≤ F.n)
    (h : sw P F.n F.code (RetQ F.res fun x H' => VShift x H' r H) (argEnv 0 args) [] H) {K : AV → AHeap → Prop} (k : K r H) : CallK P f args H K :=
  ((acalls_fn hF hn h).shift (Q' := fun x H' => x = r ∧ H' = H) fun x H' k => ⟨r, H, k, rfl, rfl⟩).mono fun x H' e => by obtain ⟨rfl, rfl⟩ := e; exact k

def Ex.lop (e : Ex) : Bool := decide (e.op = 1 ∨ e.op = 2 ∨ e.op = 3 ∨ e.op = 5)
def Ex.leaf (s : Sc) (e : Ex) : Bool := e.lop && decide (e.ty s = 1)
def Ex.isOne (e : Ex) : Bool := decide (e.op = 6 ∧ e.m = 17 ∧ e.t = 0 ∧ e.n = 0 ∧ e.l.length = 1)
def Ex.isTwo (e : Ex) (ops : List Int) : Bool := decide (e.op = 7 ∧ e.t = 0 ∧ e.n = 0 ∧ e.l.length = 2) && ops.any fun o => decide (e.m = o)

theorem nnf_leaf (s : Sc) (e : Ex) (he : e.size < 1000000000) (hw : e.wf) : PCall Tryd.prog 10 [.agg s.cells, .agg e.cells] (.bool (e.leaf s)) := by
  refine pcall_fn Code.ok10 (by simp [Code.f10]) fun H => ?_
  by_cases hl : e.lop = true
  · have hl2 := hl
    simp [Ex.lop] at hl2
    rcases hl2 with h | h | h | h
    all_goals
      simp [Code.f10, h]
      intro g1 g2
      refine CallK.pure (type_ok s _ (Nat.le_refl _) e he hw) ?_
      simp
      exact vbd (by simp [Ex.leaf, hl])
  · have hl2 := hl
    simp [Ex.lop] at hl2
    obtain ⟨h1, h2, h3, h5⟩ := hl2
    simp [Code.f10, h1, h2, h3, h5]
    intro g1 g2
    exact vbd (by simp [Ex.leaf, hl])
theorem r43_leaf (s : Sc) (e : Ex) (he : e.size < 1000000000) : PCall Tryd.prog 11 [.agg s.cells, .agg e.cells] (.bool (e.leaf s)) := by
  refine pcall_fn Code.ok11 (by simp [Code.f11]) fun H => ?_
  by_cases hl : e.lop = true
  · have hl2 := hl
    simp [Ex.lop] at hl2
    rcases hl2 with h | h | h | h
    all_goals
      simp [Code.f11, h]
      intro g1 g2
      refine CallK.pure (type26_ok s _ (Nat.le_refl _) e he) ?_
      simp
      exact vbd (by simp [Ex.leaf, hl])
  · have hl2 := hl
    simp [Ex.lop] at hl2
    obtain ⟨h1, h2, h3, h5⟩ := hl2
    simp [Code.f11, h1, h2, h3, h5]
    intro g1 g2
    exact vbd (by simp [Ex.leaf, hl])
theorem nnf_one (e : Ex) : PCall Tryd.prog 39 [.agg e.cells] (.bool e.isOne) := by
  refine pcall_fn Code.ok39 (by simp [Code.f39]) fun H => ?_
  simp [Code.f39]
  intro g
  repeat' (first | refine vbd (Bool.eq_iff_iff.2 ?_) | apply And.intro | intro _)
  all_goals (simp [Ex.isOne]; omega)
set_option maxRecDepth 20000 in
theorem nnf_two (e : Ex) (o : Own) (ops : List Int) (hl : ops.length ≤ 10) : PCall Tryd.prog 40 [.agg e.cells, .sl o (intRows ops)] (.bool (e.isTwo ops)) := by
  refine pcall_fn Code.ok40 (by simp [Code.f40]) fun H => ?_
  by_cases hs : e.op = 7 ∧ e.t = 0 ∧ e.n = 0 ∧ e.l.length = 2
  · have e1 : e.isTwo ops = ops.any fun o => decide (e.m = o) := by simp [Ex.isTwo, hs]
    rw [e1]
    obtain ⟨h1, h2, h3, h4⟩ := hs
    simp [Code.f40, h1, h2, h3, h4]
    intro g
    refine LoopK.told (σ := Nat) (fun s => [(28, .int .i64 s), (27, .int .i64 ops.length), (26, .sl o (intRows ops)), (2, .ptr H.length g 0 0)]) (fun _ => H ++ [some (.rows g [e.cells])]) (fun s => s ≤ ops.length ∧ (ops.any fun o => decide (e.m = o)) = ((ops.drop s).any fun o => decide (e.m = o))) (fun s => ops.length - s) 0 ?_ ?_ ?_ ?_
    · simp
    · simp
    · simp
    rintro i ⟨hi, hb⟩
    simp [Code.f40l0]
    refine ⟨fun h => ?_, fun h => ?_⟩
    · rw [List.drop_eq_getElem_cons h, List.any_cons] at hb
      simp [List.getElem?_eq_getElem h]
      refine ⟨fun hf => ?_, fun hf => ⟨i + 1, ⟨by omega, ?_⟩, by omega, wkn_int (wrap_id (by omega) (by omega))⟩⟩
      · rw [hb, hf]; exact vbd (by simp)
      · rw [hb]; simp [hf]
    · rw [hb, List.drop_eq_nil_of_le h]
      exact vbd rfl
  · have e1 : e.isTwo ops = false := by simp [Ex.isTwo]; intros; exfalso; omega
    rw [e1]
    simp [Code.f40]
    intro g
    repeat' (first | exact vbd rfl | (exfalso; omega) | apply And.intro | intro _)

theorem Ex.one_l {e : Ex} (h : e.isOne = true) : ∃ x, e.l = [x] := by simp [Ex.isOne] at h; exact List.length_eq_one_iff.1 h.2.2.2.2
theorem Ex.two_l {e : Ex} {ops : List Int} (h : e.isTwo ops = true) : ∃ x y, e.l = [x, y] := by
  simp [Ex.isTwo] at h
  obtain ⟨⟨_, _, _, h⟩, _⟩ := h
  match e.l, h with
  | [x, y], _ => exact ⟨x, y, rfl⟩
/-- Is it in normal form? -/
def Ex.nf (s : Sc) : Ex → Bool := Ex.para fun e rs => if e.isOne then e.l.any fun x => decide (x.op ≠ 1) && x.leaf s else if e.isTwo [14, 15] then rs.all id else e.leaf s
theorem Ex.nf_eq (s : Sc) (e : Ex) : e.nf s = if e.isOne then e.l.any fun x => decide (x.op ≠ 1) && x.leaf s else if e.isTwo [14, 15] then (e.l.map (Ex.nf s)).all id else e.leaf s := Ex.para_eq _ e
set_option maxRecDepth 20000 in
set_option maxHeartbeats 2000000 in
theorem nnf_is (s : Sc) : ∀ (k : Nat), k ≤ 1000000000 → ∀ e : Ex, e.size < k → e.wf → PCall Tryd.prog 12 [.agg s.cells, .agg e.cells] (.bool (e.nf s)) := by
  intro k
  induction k with
  | zero => intro _ e h; omega
  | succ k ih =>
  intro hk e he hw
  have hsz := Ex.size_eq e
  have hw2 := hw
  rw [Ex.wf_eq] at hw2
  obtain ⟨_, _, _, hm, hwl⟩ := hw2
  refine pcall_fn Code.ok12 (by simp [Code.f12]) fun H => ?_
  have e0 := Ex.nf_eq s e
  simp [Code.f12]
  intro g1 g2
  refine CallK.pure (nnf_one e) ?_
  cases h1 : e.isOne with
  | true =>
    obtain ⟨x, hx⟩ := Ex.one_l h1
    have hs := Ex.size_mem (l := e.l) (i := 0) (by simp [hx])
    have hwx := Ex.wf_mem (l := e.l) (i := 0) (by simp [hx]) hwl
    simp only [hx, List.getElem_cons_zero] at hs hwx
    rw [hx] at hsz
    simp [h1, hx] at e0
    rw [e0]
    simp [hx]
    refine ⟨fun h => ?_, fun h => vbd (by simp [h])⟩
    refine PCallK.pure (nnf_leaf s x (by omega) hwx) ?_
    simp
    exact vbd (by simp [h])
  | false =>
    simp
    refine CallK.pure (nnf_two e .full [14, 15] (by simp)) ?_
    cases h2 : e.isTwo [14, 15] with
    | true =>
      obtain ⟨x, y, hx⟩ := Ex.two_l h2
      have hs := Ex.size_mem (l := e.l) (i := 0) (by simp [hx])
      have hwx := Ex.wf_mem (l := e.l) (i := 0) (by simp [hx]) hwl
      have hs2 := Ex.size_mem (l := e.l) (i := 1) (by simp [hx])
      have hwy := Ex.wf_mem (l := e.l) (i := 1) (by simp [hx]) hwl
      simp only [hx, List.getElem_cons_zero, List.getElem_cons_succ] at hs hwx hs2 hwy
      rw [hx] at hsz
      simp [h1, h2, hx] at e0
      rw [e0]
      simp [hx]
      refine PCallK.pure (ih (by omega) x (by omega) hwx) ?_
      simp [hx]
      refine ⟨fun hf => ?_, fun hf => vbd (by simp [hf])⟩
      refine PCallK.pure (ih (by omega) y (by omega) hwy) ?_
      simp
      exact vbd (by simp [hf])
    | false =>
      simp [h1, h2] at e0
      rw [e0]
      simp
      refine CallK.pure (nnf_leaf s e (by omega) hw) ?_
      simp
      exact vbd rfl

/-- Is it a truth? -/
def Ex.truth (s : Sc) : Ex → Bool := Ex.para fun e rs => e.leaf s || ((e.isOne || e.isTwo [14, 15] || e.isTwo [16, 20, 21]) && rs.all id)
theorem Ex.truth_eq (s : Sc) (e : Ex) : e.truth s = (e.leaf s || ((e.isOne || e.isTwo [14, 15] || e.isTwo [16, 20, 21]) && (e.l.map (Ex.truth s)).all id)) := Ex.para_eq _ e
def Ex.shape (e : Ex) : Bool := e.isOne || e.isTwo [14, 15] || e.isTwo [16, 20, 21]
theorem Ex.shape_iff (e : Ex) : e.shape = true ↔ e.t = 0 ∧ e.n = 0 ∧ ((e.op = 6 ∧ e.m = 17 ∧ e.l.length = 1) ∨ (e.op = 7 ∧ e.l.length = 2 ∧ 14 ≤ e.m ∧ e.m ≠ 17 ∧ e.m ≠ 18 ∧ e.m ≠ 19 ∧ e.m ≤ 21)) := by
  simp [Ex.shape, Ex.isOne, Ex.isTwo]; omega
set_option maxRecDepth 20000 in
set_option maxHeartbeats 4000000 in
theorem r43_truth (s : Sc) : ∀ (k : Nat), k ≤ 1000000000 → ∀ e : Ex, e.size < k → PCall Tryd.prog 41 [.agg s.cells, .agg e.cells] (.bool (e.truth s)) := by
  intro k
  induction k with
  | zero => intro _ e h; omega
  | succ k ih =>
  intro hk e he
  have hsz := Ex.size_eq e
  have hlen := Ex.len_size e.l
  refine pcall_fn Code.ok41 (by simp [Code.f41]) fun H => ?_
  have e0 := Ex.truth_eq s e
  simp [Code.f41]
  intro g1 g2
  refine CallK.pure (r43_leaf s e (by omega)) ?_
  cases hl : e.leaf s with
  | true => simp; exact vbd (by simp [e0, hl])
  | false =>
    simp
    cases hsh : e.shape with
    | false =>
      have e1 : e.truth s = false := by rw [e0, hl]; rw [Ex.shape] at hsh; rw [hsh]; rfl
      have hn : ¬ _ := fun h => by have := (Ex.shape_iff e).2 h; rw [hsh] at this; cases this
      rw [e1]
      repeat' (first | exact vbd rfl | (exfalso; omega) | apply And.intro | intro _)
    | true =>
      have hsh2 := (Ex.shape_iff e).1 hsh
      have e1 : e.truth s = e.l.all (Ex.truth s) := by rw [e0, hl]; rw [Ex.shape] at hsh; rw [hsh]; simp
      have key : ∀ E : Env, EnvTo E [(5, .int .i64 0), (2, .ptr H.length g1 0 0), (3, .ptr (H.length + 1) g2 0 0)] → LoopK Tryd.prog 94 Code.f41l0 (AInBlock 0 (AThen (SwK Tryd.prog 94 ((SCode.region false [{ dst := some 4, op := SOp.mv (Opd.c (AV.bool true)) }]).seq SCode.ret) (RetQ [SRes.t 4] fun x H' => VShift x H' (AV.bool (Ex.truth s e)) H)) (RetQ [SRes.t 4] fun x H' => VShift x H' (AV.bool (Ex.truth s e)) H)))
          E [] (H ++ [some (.rows g1 [s.cells]), some (.rows g2 [e.cells])]) := by
        intro E hE
        refine LoopK.told (σ := Nat) (fun s => [(5, .int .i64 s), (2, .ptr H.length g1 0 0), (3, .ptr (H.length + 1) g2 0 0)]) (fun _ => H ++ [some (.rows g1 [s.cells]), some (.rows g2 [e.cells])]) (fun i => i ≤ e.l.length ∧ e.truth s = (e.l.drop i).all (Ex.truth s)) (fun s => e.l.length - s) 0 ?_ ?_ ?_ ?_
        · simp [e1]
        · exact hE
        · simp
        rintro i ⟨hi, hb⟩
        simp [Code.f41l0]
        refine ⟨fun h => ?_, fun h => ?_⟩
        · rw [List.drop_eq_getElem_cons h, List.all_cons] at hb
          have := Ex.size_mem h
          simp [List.getElem?_eq_getElem h]
          refine PCallK.pure (ih (by omega) e.l[i] (by omega)) ?_
          simp
          refine ⟨fun hf => ?_, fun hf => ⟨i + 1, ⟨by omega, ?_⟩, by omega, wkn_int (wrap_id (by omega) (by omega))⟩⟩
          · rw [hb, hf]; exact vbd rfl
          · rw [hb, hf]; rfl
        · rw [hb, List.drop_eq_nil_of_le h]
          exact vbd rfl
      obtain ⟨ht, hn, ⟨h6, hm, hll⟩ | ⟨h7, hll, m1, m2, m3, m4, m5⟩⟩ := hsh2
      · simp [ht, hn, h6, hm, hll]
        refine key _ ?_
        simp
      · have m6 : ¬ e.m < 14 := by omega
        have m7 : ¬ 21 < e.m := by omega
        simp [ht, hn, h7, hll, m1, m2, m3, m4, m5, m6, m7]
        refine key _ ?_
        simp
end Go.Proofs.YtmilcpmhdokhgaaDoor
