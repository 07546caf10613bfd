/- like: two lists held against each other by a function. (Printed by genlike.py.) -/
import Derived.Test.YtjgkfgocgknjjaaDoorU1
set_option linter.unusedVariables false
set_option linter.unusedSimpArgs false
namespace Go.Proofs.YtjgkfgocgknjjaaDoor
open Go Go.RowKit Go.Proofs.YtjgkfgocgknjjaaDoor.Abs

set_option maxRecDepth 20000 in
set_option maxHeartbeats 2000000 in
theorem likeS_ok {fid : Nat} (hok : fnOk Tryd.prog fid = true) (p : St → St → Bool) (a b : List St) (hl : a.length ≤ 1000000000)
    (hp : ∀ (i : Nat) (h : i < a.length) (h' : i < b.length), PCall Tryd.prog fid [.agg (a[i]).cells, .agg (b[i]).cells] (.bool (p a[i] b[i]))) :
    PCall Tryd.prog 22 [.sl .no (St.rows a), .sl .no (St.rows b), .fn (.func fid) [] []] (.bool (allB p a b)) := by
  refine pcall_fn Code.ok22 (by simp [Code.f22]) fun H => ?_
  by_cases hlen : a.length = b.length
  · simp [Code.f22, hlen]
    refine LoopK.told (σ := Nat) (fun s => [(15, .int .i64 s), (14, .int .i64 a.length), (0, .sl .no (St.rows a)), (1, .sl .no (St.rows b)), (2, .fn (.func fid) [] [])]) (fun _ => H) (fun s => s ≤ a.length ∧ allB p a b = allB p (a.drop s) (b.drop s)) (fun s => a.length - s) 0 ?_ ?_ ?_ ?_
    · simp
    · simp [hlen]
    · simp
    rintro i ⟨hi, hb⟩
    simp [Code.f22l0]
    refine ⟨fun h => ?_, fun h => ?_⟩
    · have h' : i < b.length := by omega
      rw [allB_drop p h h'] at hb
      simp [List.getElem?_eq_getElem h, List.getElem?_eq_getElem h']
      refine ⟨hok, PCallK.pure (hp i h h') ?_⟩
      simp
      refine ⟨fun hf => ?_, fun hf => ⟨i + 1, ⟨by omega, ?_⟩, by omega, wkn_int (wrap_id (by omega) (by omega))⟩⟩
      · rw [hb, hf]; exact vb rfl
      · rw [hb, hf]; rfl
    · rw [hb, List.drop_eq_nil_of_le h, List.drop_eq_nil_of_le (by omega)]
      exact vb rfl
  · rw [allB_len p hlen]
    simp [Code.f22]
    repeat' (first | exact vb rfl | (exfalso; omega) | apply And.intro | intro _)

set_option maxRecDepth 20000 in
set_option maxHeartbeats 2000000 in
theorem likeI_ok {fid : Nat} (hok : fnOk Tryd.prog fid = true) (p : Int → Int → Bool) (a b : List Int) (hl : a.length ≤ 1000000000)
    (hp : ∀ (i : Nat) (h : i < a.length) (h' : i < b.length), PCall Tryd.prog fid [.int .i64 (a[i]), .int .i64 (b[i])] (.bool (p a[i] b[i]))) :
    PCall Tryd.prog 35 [.sl .no (intRows a), .sl .no (intRows b), .fn (.func fid) [] []] (.bool (allB p a b)) := by
  refine pcall_fn Code.ok35 (by simp [Code.f35]) fun H => ?_
  by_cases hlen : a.length = b.length
  · simp [Code.f35, hlen]
    refine LoopK.told (σ := Nat) (fun s => [(15, .int .i64 s), (14, .int .i64 a.length), (0, .sl .no (intRows a)), (1, .sl .no (intRows b)), (2, .fn (.func fid) [] [])]) (fun _ => H) (fun s => s ≤ a.length ∧ allB p a b = allB p (a.drop s) (b.drop s)) (fun s => a.length - s) 0 ?_ ?_ ?_ ?_
    · simp
    · simp [hlen]
    · simp
    rintro i ⟨hi, hb⟩
    simp [Code.f35l0]
    refine ⟨fun h => ?_, fun h => ?_⟩
    · have h' : i < b.length := by omega
      rw [allB_drop p h h'] at hb
      simp [List.getElem?_eq_getElem h, List.getElem?_eq_getElem h']
      refine ⟨hok, PCallK.pure (hp i h h') ?_⟩
      simp
      refine ⟨fun hf => ?_, fun hf => ⟨i + 1, ⟨by omega, ?_⟩, by omega, wkn_int (wrap_id (by omega) (by omega))⟩⟩
      · rw [hb, hf]; exact vb rfl
      · rw [hb, hf]; rfl
    · rw [hb, List.drop_eq_nil_of_le h, List.drop_eq_nil_of_le (by omega)]
      exact vb rfl
  · rw [allB_len p hlen]
    simp [Code.f35]
    repeat' (first | exact vb rfl | (exfalso; omega) | apply And.intro | intro _)

set_option maxRecDepth 20000 in
set_option maxHeartbeats 2000000 in
theorem likeE_ok {fid : Nat} (hok : fnOk Tryd.prog fid = true) (p : Ex → Ex → Bool) (a b : List Ex) (hl : a.length ≤ 1000000000)
    (hp : ∀ (i : Nat) (h : i < a.length) (h' : i < b.length), PCall Tryd.prog fid [.agg (a[i]).cells, .agg (b[i]).cells] (.bool (p a[i] b[i]))) :
    PCall Tryd.prog 36 [.sl .no (Ex.rows a), .sl .no (Ex.rows b), .fn (.func fid) [] []] (.bool (allB p a b)) := by
  refine pcall_fn Code.ok36 (by simp [Code.f36]) fun H => ?_
  by_cases hlen : a.length = b.length
  · simp [Code.f36, hlen]
    refine LoopK.told (σ := Nat) (fun s => [(15, .int .i64 s), (14, .int .i64 a.length), (0, .sl .no (Ex.rows a)), (1, .sl .no (Ex.rows b)), (2, .fn (.func fid) [] [])]) (fun _ => H) (fun s => s ≤ a.length ∧ allB p a b = allB p (a.drop s) (b.drop s)) (fun s => a.length - s) 0 ?_ ?_ ?_ ?_
    · simp
    · simp [hlen]
    · simp
    rintro i ⟨hi, hb⟩
    simp [Code.f36l0]
    refine ⟨fun h => ?_, fun h => ?_⟩
    · have h' : i < b.length := by omega
      rw [allB_drop p h h'] at hb
      simp [List.getElem?_eq_getElem h, List.getElem?_eq_getElem h']
      refine ⟨hok, PCallK.pure (hp i h h') ?_⟩
      simp
      refine ⟨fun hf => ?_, fun hf => ⟨i + 1, ⟨by omega, ?_⟩, by omega, wkn_int (wrap_id (by omega) (by omega))⟩⟩
      · rw [hb, hf]; exact vb rfl
      · rw [hb, hf]; rfl
    · rw [hb, List.drop_eq_nil_of_le h, List.drop_eq_nil_of_le (by omega)]
      exact vb rfl
  · rw [allB_len p hlen]
    simp [Code.f36]
    repeat' (first | exact vb rfl | (exfalso; omega) | apply And.intro | intro _)

set_option maxRecDepth 20000 in
set_option maxHeartbeats 2000000 in
theorem likeA_ok {fid : Nat} (hok : fnOk Tryd.prog fid = true) (p : Arg → Arg → Bool) (a b : List Arg) (hl : a.length ≤ 1000000000)
    (hp : ∀ (i : Nat) (h : i < a.length) (h' : i < b.length), PCall Tryd.prog fid [.agg (a[i]).cells, .agg (b[i]).cells] (.bool (p a[i] b[i]))) :
    PCall Tryd.prog 37 [.sl .no (Arg.rows a), .sl .no (Arg.rows b), .fn (.func fid) [] []] (.bool (allB p a b)) := by
  refine pcall_fn Code.ok37 (by simp [Code.f37]) fun H => ?_
  by_cases hlen : a.length = b.length
  · simp [Code.f37, hlen]
    refine LoopK.told (σ := Nat) (fun s => [(15, .int .i64 s), (14, .int .i64 a.length), (0, .sl .no (Arg.rows a)), (1, .sl .no (Arg.rows b)), (2, .fn (.func fid) [] [])]) (fun _ => H) (fun s => s ≤ a.length ∧ allB p a b = allB p (a.drop s) (b.drop s)) (fun s => a.length - s) 0 ?_ ?_ ?_ ?_
    · simp
    · simp [hlen]
    · simp
    rintro i ⟨hi, hb⟩
    simp [Code.f37l0]
    refine ⟨fun h => ?_, fun h => ?_⟩
    · have h' : i < b.length := by omega
      rw [allB_drop p h h'] at hb
      simp [List.getElem?_eq_getElem h, List.getElem?_eq_getElem h']
      refine ⟨hok, PCallK.pure (hp i h h') ?_⟩
      simp
      refine ⟨fun hf => ?_, fun hf => ⟨i + 1, ⟨by omega, ?_⟩, by omega, wkn_int (wrap_id (by omega) (by omega))⟩⟩
      · rw [hb, hf]; exact vb rfl
      · rw [hb, hf]; rfl
    · rw [hb, List.drop_eq_nil_of_le h, List.drop_eq_nil_of_le (by omega)]
      exact vb rfl
  · rw [allB_len p hlen]
    simp [Code.f37]
    repeat' (first | exact vb rfl | (exfalso; omega) | apply And.intro | intro _)

end Go.Proofs.YtjgkfgocgknjjaaDoor
