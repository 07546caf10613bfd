/- stmt.Same: any two lists of statements. -/
import Derived.Test.YtjgkfgocgknjjaaDoorU3
set_option linter.unusedVariables false
set_option linter.unusedSimpArgs false
namespace Go.Proofs.YtjgkfgocgknjjaaDoor
open Go Go.RowKit Go.Proofs.YtjgkfgocgknjjaaDoor.Abs

theorem callsAt {P : Program} {f : Nat} {F : SFn} (hF : chkFn P f F = true) {args : List AV} {r : AV} {H : AHeap} (hn : args.length ≤ F.n)
    (h : sw P F.n F.code (RetQ F.res fun x H' => VShift x H' r H) (argEnv 0 args) [] H) {K : AV → AHeap → Prop} (k : K r H) : CallK P f args H K :=
  ((acalls_fn hF hn h).shift (Q' := fun x H' => x = r ∧ H' = H) fun x H' k => ⟨r, H, k, rfl, rfl⟩).mono fun x H' e => by obtain ⟨rfl, rfl⟩ := e; exact k

set_option maxRecDepth 20000 in
theorem argf_ok (x y : Arg) (hx : x.size < 900000000) : PCall Tryd.prog 32 [.agg x.cells, .agg y.cells] (.bool (x.beq y)) := by
  have h10 : x.size = 1 + x.e.size := rfl
  refine pcall_fn Code.ok32 (by simp [Code.f32]) fun H => ?_
  by_cases h1 : x.field = y.field
  rotate_left
  · simp [Code.f32, h1]; intro g1 g2; exact vbd (by simp [Arg.beq, h1])
  simp [Code.f32, h1]
  intro g1 g2
  refine CallK.pure (samexe x.e y.e (by omega)) ?_
  simp
  exact vbd (by simp [Arg.beq, h1])
theorem intf_ok (x y : Int) : PCall Tryd.prog 33 [.int .i64 x, .int .i64 y] (.bool (intB x y)) := by
  refine pcall_fn Code.ok33 (by simp [Code.f33]) fun H => ?_
  simp [Code.f33]
  exact vb rfl

set_option maxRecDepth 20000 in
set_option maxHeartbeats 2000000 in
theorem likeM_ok {fid : Nat} (hok : fnOk Tryd.prog fid = true) (p : Arm → Arm → Bool) (a b : List Arm) (hl : a.length ≤ 1000000000) (H : AHeap) (caps : List AV)
    (hp : ∀ (i : Nat) (h : i < a.length) (h' : i < b.length) (K : AV → AHeap → Prop), K (.bool (p a[i] b[i])) H → CallK Tryd.prog fid (.agg (a[i]).cells :: .agg (b[i]).cells :: caps) H K) (K : AV → AHeap → Prop) (hK : K (.bool (allB p a b)) H) :
    CallK Tryd.prog 38 [.sl .no (Arm.rows a), .sl .no (Arm.rows b), .fn (.func fid) [] caps] H K := by
  refine callsAt Code.ok38 (by simp [Code.f38]) ?_ hK
  by_cases hlen : a.length = b.length
  · simp [Code.f38, hlen]
    refine LoopK.told (σ := Nat) (fun s => [(15, .int .i64 s), (14, .int .i64 a.length), (0, .sl .no (Arm.rows a)), (1, .sl .no (Arm.rows b)), (2, .fn (.func fid) [] caps)]) (fun _ => H) (fun s => s ≤ a.length ∧ allB p a b = allB p (a.drop s) (b.drop s)) (fun s => a.length - s) 0 ?_ ?_ ?_ ?_
    · simp
    · simp [hlen]
    · simp
    rintro i ⟨hi, hb⟩
    simp [Code.f38l0]
    refine ⟨fun h => ?_, fun h => ?_⟩
    · have h' : i < b.length := by omega
      rw [allB_drop p h h'] at hb
      simp [List.getElem?_eq_getElem h, List.getElem?_eq_getElem h']
      refine ⟨hok, hp i h h' _ ?_⟩
      simp
      refine ⟨fun hf => ?_, fun hf => ⟨i + 1, ⟨by omega, ?_⟩, by omega, wkn_int (wrap_id (by omega) (by omega))⟩⟩
      · rw [hb, hf]; exact vb rfl
      · rw [hb, hf]; rfl
    · rw [hb, List.drop_eq_nil_of_le h, List.drop_eq_nil_of_le (by omega)]
      exact vb rfl
  · rw [allB_len p hlen]
    simp [Code.f38]
    repeat' (first | exact vb rfl | (exfalso; omega) | apply And.intro | intro _)

set_option maxRecDepth 20000 in
set_option maxHeartbeats 2000000 in
theorem armf_ok {k : Nat} (ih : ∀ l m : List St, St.sizeL l < k → PCall Tryd.prog 14 [.sl .no (St.rows l), .sl .no (St.rows m)] (.bool (allB St.beq l m))) (hk : k ≤ 800000000) (x y : Arm) (hx : x.size < k)
    (H : AHeap) (bx g : Nat) (hH : H[bx]? = some (some (.rows g [[.fn (.func 33) [] []]]))) (K : AV → AHeap → Prop) (hK : K (.bool (x.beq y)) H) :
    CallK Tryd.prog 34 [.agg x.cells, .agg y.cells, .ptr bx g 0 0] H K := by
  have h10 := Arm.size_eq x
  have hlt : bx < H.length := by
    rcases Nat.lt_or_ge bx H.length with h | h
    · exact h
    · rw [List.getElem?_eq_none h] at hH; cases hH
  have key : ∀ J : AHeap, (H ++ J)[bx]? = some (some (.rows g [[.fn (.func 33) [] []]])) := fun J => by rw [List.getElem?_append_left hlt, hH]
  refine callsAt Code.ok34 (by simp [Code.f34]) ?_ hK
  rw [Arm.beq_eq]
  simp [Code.f34, key]
  intro g1 g2
  simp [key]
  refine CallK.pure (likeI_ok (by rfl) intB x.labels y.labels (by omega) fun i h h' => intf_ok _ _) ?_
  cases h4 : allB intB x.labels y.labels
  · simp; exact vbd rfl
  simp [key]
  refine CallK.pure (ih x.body y.body (by omega)) ?_
  simp
  exact vbd rfl

set_option maxRecDepth 20000 in
set_option maxHeartbeats 8000000 in
theorem ones_ok {k : Nat} (ih : ∀ l m : List St, St.sizeL l < k → PCall Tryd.prog 14 [.sl .no (St.rows l), .sl .no (St.rows m)] (.bool (allB St.beq l m))) (hk : k ≤ 800000000) (x y : St) (hx : x.size < k + 1) :
    PCall Tryd.prog 23 [.agg x.cells, .agg y.cells] (.bool (x.beq y)) := by
  have hsz := St.size_eq x
  have := x.e.size_pos
  have hl1 := Ex.len_size x.l
  have hl2 := Arg.len_size x.args
  have hl3 := Arm.len_size x.arms
  rw [St.beq_eq]
  refine pcall_fn Code.ok23 (by simp [Code.f23]) fun H => ?_
  by_cases h1 : x.kind = y.kind
  rotate_left
  · simp [Code.f23, h1]; intro g1 g2; exact vbd rfl
  by_cases h0 : x.cost = y.cost
  rotate_left
  · simp [Code.f23, h1, h0]; intro g1 g2; exact vbd rfl
  by_cases h2 : x.n = y.n
  rotate_left
  · simp [Code.f23, h1, h0, h2]; intro g1 g2; exact vbd rfl
  by_cases h3 : x.m = y.m
  rotate_left
  · simp [Code.f23, h1, h0, h2, h3]; intro g1 g2; exact vbd rfl
  simp [Code.f23, h1, h0, h2, h3]
  intro g1 g2
  refine CallK.pure (samexe x.e y.e (by omega)) ?_
  cases h4 : x.e.beq y.e
  · simp; exact vbd rfl
  simp
  refine CallK.pure (samexe x.i y.i (by omega)) ?_
  cases h5 : x.i.beq y.i
  · simp; exact vbd rfl
  simp
  intro g3
  refine CallK.pure (likeE_ok (by rfl) Ex.beq x.l y.l (by omega) fun i h h' => samexe _ _ (by have := Ex.size_mem h; omega)) ?_
  cases h6 : allB Ex.beq x.l y.l
  · simp; exact vbd rfl
  simp
  refine CallK.pure (likeA_ok (by rfl) Arg.beq x.args y.args (by omega) fun i h h' => argf_ok _ _ (by have := Arg.size_mem h; omega)) ?_
  cases h7 : allB Arg.beq x.args y.args
  · simp; exact vbd rfl
  simp
  refine CallK.pure (ih x.body y.body (by omega)) ?_
  cases h8 : allB St.beq x.body y.body
  · simp; exact vbd rfl
  simp
  refine CallK.pure (ih x.els y.els (by omega)) ?_
  cases h9 : allB St.beq x.els y.els
  · simp; exact vbd rfl
  simp
  refine likeM_ok (by rfl) Arm.beq x.arms y.arms (by omega) _ [_] (fun i h h' K hK => armf_ok ih hk _ _ (by have := Arm.size_mem h; omega) _ _ _ (by simp) K hK) _ ?_
  simp
  exact vbd rfl

set_option maxRecDepth 20000 in
set_option maxHeartbeats 4000000 in
theorem same_ok : ∀ (k : Nat), k ≤ 800000000 → ∀ l m : List St, St.sizeL l < k → PCall Tryd.prog 14 [.sl .no (St.rows l), .sl .no (St.rows m)] (.bool (allB St.beq l m)) := by
  intro k
  induction k with
  | zero => intro _ l m h; omega
  | succ k ih =>
  intro hk l m hl
  have hlen0 := St.len_size l
  refine pcall_fn Code.ok14 (by simp [Code.f14]) fun H => ?_
  simp [Code.f14]
  refine CallK.pure (likeS_ok (by rfl) St.beq l m (by omega) fun i h h' => ones_ok (ih (by omega)) (by omega) _ _ (by have := St.size_mem h; omega)) ?_
  simp
  exact vb rfl
end Go.Proofs.YtjgkfgocgknjjaaDoor
