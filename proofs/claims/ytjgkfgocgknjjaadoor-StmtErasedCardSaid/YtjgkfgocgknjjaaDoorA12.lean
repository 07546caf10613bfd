/- The abstract machine, part 12: regions whose order is drawn, whatever the order. -/
import Derived.Test.YtjgkfgocgknjjaaDoorA11
set_option linter.unusedVariables false
set_option linter.unusedSimpArgs false
namespace Go.Proofs.YtjgkfgocgknjjaaDoor.Abs
open Go Go.RowKit

/-! What comes ahead of what. -/
def bmOne (acc : List Nat) (ps : List Nat) : Nat := ps.foldl (fun s e => s ||| 2 ^ e ||| acc.getD e 0) 0
def bmGo : List (List Nat) → List Nat → List Nat
  | [], acc => acc
  | ps :: r, acc => bmGo r (acc ++ [bmOne acc ps])
theorem bmOne_bit {acc : List Nat} {i : Nat} : ∀ {ps : List Nat} {s : Nat}, (ps.foldl (fun s e => s ||| 2 ^ e ||| acc.getD e 0) s).testBit i = true → s.testBit i = true ∨ ∃ e ∈ ps, e = i ∨ (acc.getD e 0).testBit i = true
  | [], s, h => .inl h
  | e :: ps, s, h => by
    rcases bmOne_bit (ps := ps) h with h | ⟨e', h1, h2⟩
    · rw [Nat.testBit_or, Nat.testBit_or, Nat.testBit_two_pow] at h
      simp only [Bool.or_eq_true, decide_eq_true_eq] at h
      rcases h with (h | h) | h
      · exact .inl h
      · exact .inr ⟨e, by simp, .inl h⟩
      · exact .inr ⟨e, by simp, .inr h⟩
    · exact .inr ⟨e', by simp [h1], h2⟩
theorem bm_closed {S : Nat → Bool} {preds : List (List Nat)} (hS : ∀ j, S j = true → ∀ e ∈ preds.getD j [], S e = true) : ∀ (rest done : List (List Nat)) (acc : List Nat), preds = done ++ rest → acc.length = done.length →
    (∀ j, j < acc.length → (∀ e ∈ preds.getD j [], S e = true) → ∀ i, (acc.getD j 0).testBit i = true → S i = true) →
    ∀ j, (∀ e ∈ preds.getD j [], S e = true) → ∀ i, ((bmGo rest acc).getD j 0).testBit i = true → S i = true
  | [], done, acc, hp, hl, h, j, hj, i, hb => by
    by_cases hlt : j < acc.length
    · exact h j hlt hj i hb
    · simp only [bmGo] at hb
      rw [List.getD_eq_getElem?_getD, List.getElem?_eq_none (by omega)] at hb
      simp at hb
  | ps :: rest, done, acc, hp, hl, h, j, hj, i, hb => by
    refine bm_closed hS rest (done ++ [ps]) (acc ++ [bmOne acc ps]) (by simp [hp]) (by simp [hl]) ?_ j hj i hb
    intro j' hlt hj' i' hb'
    by_cases hc : j' < acc.length
    · rw [List.getD_eq_getElem?_getD, List.getElem?_append_left hc, ← List.getD_eq_getElem?_getD] at hb'
      exact h j' hc hj' i' hb'
    · have e : j' = acc.length := by simp at hlt; omega
      subst e
      rw [List.getD_eq_getElem?_getD, List.getElem?_append_right (Nat.le_refl _)] at hb'
      simp only [Nat.sub_self, List.getElem?_cons_zero, Option.getD_some] at hb'
      have hps : preds.getD acc.length [] = ps := by
        rw [List.getD_eq_getElem?_getD, hp, List.getElem?_append_right (by omega)]
        simp [hl]
      rw [hps] at hj'
      rcases bmOne_bit hb' with h0 | ⟨e, he, h1⟩
      · simp at h0
      · rcases h1 with rfl | h1
        · exact hj' _ he
        · have hel : e < acc.length := by
            by_cases hc' : e < acc.length
            · exact hc'
            · rw [List.getD_eq_getElem?_getD, List.getElem?_eq_none (by omega)] at h1; simp at h1
          exact h e hel (hS e (hj' e he)) i' h1

def predsOf (o : Oper) : List Nat := (o.after.toList.filter (Region.binds .any)).map (·.on)
def sameDst (a b : SOper) : Bool := match a.dst, b.dst with | some x, some y => x == y | _, _ => false
def touch (a b : SOper) : Bool := (match a.dst with | some d => b.reads.contains d | none => false) || (match b.dst with | some d => a.reads.contains d | none => false)
/-- An operation that makes an entry of its own, wherever it comes. -/
def isAl : SOp → Bool
  | .alloc _ => true
  | _ => false
def conf (a b : SOper) : Bool := touch a b || a.bar || (b.bar && !b.loose) || (a.op.kind == 2 && b.op.kind == 2) || (a.op.kind == 1 && !a.loose && b.op.kind == 2) || (a.op.kind == 2 && b.op.kind == 1 && !b.loose)
def chkDraw (ops : List Oper) (sops : List SOper) : Bool :=
  let preds := ops.map predsOf
  let B := bmGo preds []
  decide (ops.length = sops.length) && (sops.all fun o => o.bar || !(o.op.kind == 3)) &&
  ((List.range preds.length).all fun j => (preds.getD j []).all fun e => decide (e < j)) &&
  ((List.range sops.length).all fun j => (List.range j).all fun i => match sops[i]?, sops[j]? with
    | some a, some b => !sameDst a b && ((B.getD j 0).testBit i || !conf a b)
    | _, _ => true) &&
  ((List.range sops.length).all fun j => match sops[j]? with
    | some b => !(b.bar && b.loose) || (isAl b.op && b.guard.isNone && ((List.range j).all fun i => match sops[i]? with
        | some a => !a.bar && decide (a.op.kind ≤ 1) && !touch a b
        | none => true) && (match sops[j + 1]? with
        | some x => x.bar && !x.loose
        | none => true))
    | none => true)

structure DCtx (ops : Array Oper) (sops : List SOper) : Prop where
  len : ops.size = sops.length
  back : ∀ (j : Nat) (o : Oper), ops[j]? = some o → ∀ e ∈ predsOf o, e < j
  cl : ∀ (S : Nat → Bool), (∀ (j : Nat) (o : Oper), ops[j]? = some o → S j = true → ∀ e ∈ predsOf o, S e = true) → ∀ (i j : Nat) (a b : SOper) (o : Oper), i < j → sops[i]? = some a → sops[j]? = some b → ops[j]? = some o → conf a b = true →
    (∀ e ∈ predsOf o, S e = true) → S i = true
  dist : ∀ (i j : Nat) (a b : SOper), i < j → sops[i]? = some a → sops[j]? = some b → sameDst a b = false
  news : ∀ (j : Nat) (a : SOper), sops[j]? = some a → a.bar = false → a.op.kind ≠ 3
  flt : ∀ (j : Nat) (b : SOper), sops[j]? = some b → b.bar = true → b.loose = true → isAl b.op = true ∧ b.guard = none ∧ (∀ (i : Nat) (a : SOper), i < j → sops[i]? = some a → a.bar = false ∧ a.op.kind ≤ 1 ∧ touch a b = false) ∧ ∀ x, sops[j + 1]? = some x → x.bar = true ∧ x.loose = false

theorem dctx {ops : Array Oper} {sops : List SOper} (h : chkDraw ops.toList sops = true) : DCtx ops sops := by
  simp only [chkDraw, Bool.and_eq_true, decide_eq_true_eq, List.all_eq_true, List.mem_range] at h
  obtain ⟨⟨⟨⟨h1, h2⟩, h3⟩, h4⟩, h5⟩ := h
  have hpre : ∀ (j : Nat) (o : Oper), ops[j]? = some o → (ops.toList.map predsOf).getD j [] = predsOf o := by
    intro j o ho
    rw [List.getD_eq_getElem?_getD, List.getElem?_map]
    have : ops.toList[j]? = some o := by simpa using ho
    rw [this]; rfl
  refine ⟨by simpa using h1, ?_, ?_, ?_, ?_, ?_⟩
  · intro j o ho e he
    have hj : j < (ops.toList.map predsOf).length := by
      have := (Array.getElem?_eq_some_iff.1 ho).1
      simpa using this
    have := h3 j hj e (by rw [hpre j o ho]; exact he)
    exact this
  · intro S hS i j a b o hij ha hb ho hconf hj
    have hjl : j < sops.length := (List.getElem?_eq_some_iff.1 hb).1
    have := h4 j hjl i hij
    rw [ha, hb] at this
    simp only [Bool.and_eq_true, Bool.or_eq_true, Bool.not_eq_true'] at this
    rcases this.2 with hbit | hno
    · refine bm_closed (S := S) (preds := ops.toList.map predsOf) ?_ (ops.toList.map predsOf) [] [] rfl rfl (by simp) j ?_ i hbit
      · intro j' hj' e he
        cases ho' : ops[j']? with
        | none =>
          rw [List.getD_eq_getElem?_getD, List.getElem?_map] at he
          have : ops.toList[j']? = none := by simpa using ho'
          rw [this] at he; simp at he
        | some o' =>
          rw [hpre j' o' ho'] at he
          exact hS j' o' ho' hj' e he
      · intro e he
        rw [hpre j o ho] at he
        exact hj e he
    · rw [hconf] at hno; cases hno
  · intro i j a b hij ha hb
    have hjl : j < sops.length := (List.getElem?_eq_some_iff.1 hb).1
    have := h4 j hjl i hij
    rw [ha, hb] at this
    simp only [Bool.and_eq_true, Bool.not_eq_true'] at this
    exact this.1
  · intro j a ha hbar hk
    have := h2 a (List.mem_of_getElem? ha)
    rw [hbar, hk] at this
    simp at this
  · intro j b hb hbar hloose
    have hjl : j < sops.length := (List.getElem?_eq_some_iff.1 hb).1
    have := h5 j hjl
    rw [hb] at this
    simp only [hbar, hloose, Bool.and_self, Bool.not_true, Bool.false_or, Bool.and_eq_true, List.all_eq_true, List.mem_range] at this
    obtain ⟨⟨⟨p1, p2⟩, p3⟩, p4⟩ := this
    refine ⟨p1, by simpa using p2, ?_, ?_⟩
    · intro i a hi ha
      have := p3 i hi
      rw [ha] at this
      simp only [Bool.and_eq_true, Bool.not_eq_true', decide_eq_true_eq] at this
      exact ⟨this.1.1, this.1.2, this.2⟩
    · intro x hx
      rw [hx] at p4
      simpa using p4

/-! What a set of operations of a stretch has come to. -/
structure Tr where
  dst : Option Nat
  x : AV
  isW : Bool
  H' : AHeap
def envS : List Tr → Nat → (Nat → Bool) → Env → Env
  | [], _, _, E => E
  | t :: r, k, S, E => envS r (k + 1) S (if S k then E.put t.dst t.x else E)
def heapS : List Tr → Nat → (Nat → Bool) → AHeap → AHeap
  | [], _, _, H => H
  | t :: r, k, S, H => heapS r (k + 1) S (if S k && t.isW then t.H' else H)
theorem envS_snoc (t : Tr) (S : Nat → Bool) : ∀ (tr : List Tr) (k : Nat) (E : Env), envS (tr ++ [t]) k S E = if S (k + tr.length) then (envS tr k S E).put t.dst t.x else envS tr k S E
  | [], k, E => by simp [envS]
  | u :: r, k, E => by
    simp only [List.cons_append, envS, List.length_cons]
    rw [envS_snoc t S r (k + 1), show k + 1 + r.length = k + (r.length + 1) by omega]
theorem heapS_snoc (t : Tr) (S : Nat → Bool) : ∀ (tr : List Tr) (k : Nat) (H : AHeap), heapS (tr ++ [t]) k S H = if S (k + tr.length) && t.isW then t.H' else heapS tr k S H
  | [], k, H => by simp [heapS]
  | u :: r, k, H => by
    simp only [List.cons_append, heapS, List.length_cons]
    rw [heapS_snoc t S r (k + 1), show k + 1 + r.length = k + (r.length + 1) by omega]
theorem put_get (E : Env) (d : Option Nat) (x : AV) (t : Nat) : (E.put d x).get t = if d = some t then some x else E.get t := by
  cases d with
  | none => simp [Env.put]
  | some d => rw [Env.get_put]; simp
theorem envS_agree {S S' : Nat → Bool} {t : Nat} : ∀ {tr : List Tr} {k : Nat} {E E' : Env}, (∀ (m : Nat) (u : Tr), tr[m]? = some u → u.dst = some t → S (k + m) = S' (k + m)) → E.get t = E'.get t → (envS tr k S E).get t = (envS tr k S' E').get t
  | [], k, E, E', _, h => h
  | u :: r, k, E, E', hs, h => by
    simp only [envS]
    refine envS_agree (fun m v hm hd => by have := hs (m + 1) v (by simpa using hm) hd; rwa [show k + (m + 1) = k + 1 + m by omega] at this) ?_
    by_cases hd : u.dst = some t
    · have := hs 0 u rfl hd
      simp only [Nat.add_zero] at this
      rw [this]
      split
      · rw [put_get, put_get, if_pos hd, if_pos hd]
      · exact h
    · have e : ∀ (b : Bool) (F : Env), (if b = true then F.put u.dst u.x else F).get t = F.get t := by
        intro b F; split
        · rw [put_get, if_neg hd]
        · rfl
      rw [e, e]; exact h
theorem heapS_agree {S S' : Nat → Bool} : ∀ {tr : List Tr} {k : Nat} {H : AHeap}, (∀ (m : Nat) (u : Tr), tr[m]? = some u → u.isW = true → S (k + m) = S' (k + m)) → heapS tr k S H = heapS tr k S' H
  | [], k, H, _ => rfl
  | u :: r, k, H, hs => by
    simp only [heapS]
    have h0 : (S k && u.isW) = (S' k && u.isW) := by
      cases hw : u.isW with
      | false => simp
      | true => have := hs 0 u rfl hw; simp only [Nat.add_zero] at this; rw [this]
    rw [h0]
    exact heapS_agree (fun m v hm hd => by have := hs (m + 1) v (by simpa using hm) hd; rwa [show k + (m + 1) = k + 1 + m by omega] at this)
theorem envS_add {S : Nat → Bool} {i t : Nat} : ∀ {tr : List Tr} {k m : Nat} {u : Tr} {E : Env}, tr[m]? = some u → (∀ (m' : Nat) (v : Tr), tr[m']? = some v → m' ≠ m → u.dst = some t → v.dst ≠ some t) → i = k + m →
    (envS tr k (fun j => S j || j == i) E).get t = ((envS tr k S E).put u.dst u.x).get t
  | [], k, m, u, E, h, _, _ => by simp at h
  | v :: r, k, 0, u, E, h, hd, hi => by
    simp at h
    subst h
    have hik : i = k := by omega
    subst hik
    simp only [envS, beq_self_eq_true, Bool.or_true, if_true]
    rw [put_get]
    by_cases hdt : v.dst = some t
    · rw [if_pos hdt]
      have : ∀ F F' : Env, F.get t = F'.get t → (envS r (i + 1) (fun j => S j || j == i) F).get t = (envS r (i + 1) S F').get t := fun F F' hF =>
        envS_agree (fun m' w hm' hw => absurd hw (hd (m' + 1) w (by simpa using hm') (by omega) hdt)) hF
      have none_get : ∀ F : Env, (envS r (i + 1) (fun j => S j || j == i) F).get t = F.get t := by
        have gen : ∀ (tr : List Tr) (k : Nat) (F : Env) (T : Nat → Bool), (∀ (m' : Nat) (w : Tr), tr[m']? = some w → w.dst ≠ some t) → (envS tr k T F).get t = F.get t := by
          intro tr
          induction tr with
          | nil => intro k F T _; rfl
          | cons a tr ih =>
            intro k F T hno
            simp only [envS]
            rw [ih _ _ _ (fun m' w hw => hno (m' + 1) w (by simpa using hw))]
            split
            · rw [put_get, if_neg (hno 0 a rfl)]
            · rfl
        exact fun F => gen r _ F _ (fun m' w hw => hd (m' + 1) w (by simpa using hw) (by omega) hdt)
      rw [none_get, put_get, if_pos hdt]
    · rw [if_neg hdt]
      refine envS_agree (fun m' w hm' hw => ?_) ?_
      · have : ¬ (i + 1 + m' = i) := by omega
        simp [this]
      · rw [put_get, if_neg hdt]
        split
        · rw [put_get, if_neg hdt]
        · rfl
  | v :: r, k, m + 1, u, E, h, hd, hi => by
    have hne : ¬ (k = i) := by omega
    simp only [envS]
    have e : (S k || k == i) = S k := by simp [hne]
    simp only [e]
    exact envS_add (tr := r) (k := k + 1) (m := m) (by simpa using h) (fun m' w hm' hne' hu => hd (m' + 1) w (by simpa using hm') (by omega) hu) (by omega)
theorem heapS_last {S : Nat → Bool} {i : Nat} : ∀ {tr : List Tr} {k m : Nat} {u : Tr} {H : AHeap}, tr[m]? = some u → u.isW = true → i = k + m → (∀ (m' : Nat) (v : Tr), tr[m']? = some v → m < m' → v.isW = true → S (k + m') = false) →
    heapS tr k (fun j => S j || j == i) H = u.H'
  | [], k, m, u, H, h, _, _, _ => by simp at h
  | v :: r, k, 0, u, H, h, hw, hi, hl => by
    simp at h
    subst h
    have hik : i = k := by omega
    subst hik
    simp only [heapS, beq_self_eq_true, Bool.or_true, hw, Bool.and_self, if_true]
    have gen : ∀ (tr : List Tr) (k : Nat) (F : AHeap) (T : Nat → Bool), (∀ (m' : Nat) (w : Tr), tr[m']? = some w → w.isW = true → T (k + m') = false) → heapS tr k T F = F := by
      intro tr
      induction tr with
      | nil => intro k F T _; rfl
      | cons a tr ih =>
        intro k F T hno
        simp only [heapS]
        have h0 : (T k && a.isW) = false := by
          cases hw : a.isW with
          | false => simp
          | true => have := hno 0 a rfl hw; simp only [Nat.add_zero] at this; rw [this]; rfl
        rw [h0, if_neg (by simp)]
        exact ih _ _ _ (fun m' w hw' hw2 => by have := hno (m' + 1) w (by simpa using hw') hw2; rwa [show k + (m' + 1) = k + 1 + m' by omega] at this)
    refine gen r _ _ _ (fun m' w hw' hw2 => ?_)
    have := hl (m' + 1) w (by simpa using hw') (by omega) hw2
    have hne : ¬ (i + 1 + m' = i) := by omega
    simp only [hne, beq_iff_eq, Bool.or_eq_false_iff]
    refine ⟨by rwa [show i + (m' + 1) = i + 1 + m' by omega] at this, by simp [hne]⟩
  | v :: r, k, m + 1, u, H, h, hw, hi, hl => by
    simp only [heapS]
    exact heapS_last (tr := r) (k := k + 1) (m := m) (by simpa using h) hw (by omega) (fun m' w hw' hlt hw2 => by
      have := hl (m' + 1) w (by simpa using hw') (by omega) hw2
      rwa [show k + (m' + 1) = k + 1 + m' by omega] at this)

/-- A stretch's operations, each in its place. -/
def TrOk (P : Program) (sops : List SOper) (k : Nat) (tr : List Tr) (E0 : Env) (H0 : AHeap) : Prop :=
  ∀ (m : Nat) (u : Tr), tr[m]? = some u → ∃ so, sops[k + m]? = some so ∧ so.bar = false ∧ u.dst = so.dst ∧ u.isW = (so.op.kind == 2) ∧
    StepD P so (envS tr k (fun j => decide (j < k + m)) E0) (heapS tr k (fun j => decide (j < k + m)) H0) u.x u.H' ∧
    (so.op.kind = 1 → so.loose = true → ∀ S, StepD P so (envS tr k (fun j => decide (j < k + m)) E0) (heapS tr k S H0) u.x (heapS tr k S H0))

section
variable {P : Program} {N : Nat} {D : List ADef} {ops : Array Oper} {sops : List SOper}

theorem Rep.congr {G : Gh} {a : Act} {w : World} {E E' : Env} {H : AHeap} (r : Rep N G a w E D H) (h : ∀ t, E'.get t = E.get t) : Rep N G a w E' D H :=
  ⟨r.inv, r.size, r.defs, fun t y hy => r.env t y (by rw [← h]; exact hy)⟩

theorem cnt_set {l : Array Bool} {i : Nat} (h : l[i]? = some false) : (l.setIfInBounds i true).toList.count false + 1 = l.toList.count false := by
  have hi : i < l.toList.length := by have := (Array.getElem?_eq_some_iff.1 h).1; simpa using this
  rw [Array.toList_setIfInBounds, List.count_set hi]
  have hv : l.toList[i] = false := by
    have := (Array.getElem?_eq_some_iff.1 h).2
    simpa using this
  have hpos : 0 < l.toList.count false := List.count_pos_iff.2 (by rw [← hv]; exact List.getElem_mem hi)
  have h1 : (if (l.toList[i] == false) = true then 1 else 0) = 1 := if_pos (by rw [hv]; rfl)
  have h2 : (if (true == false) = true then 1 else 0) = 0 := rfl
  rw [h1, h2]
  omega

/-- Whatever is ready in a stretch may come next. -/
theorem seg_any (hall : ∀ (j : Nat) (so : SOper), sops[j]? = some so → ∃ o, ops[j]? = some o ∧ chkOper P N ops o so = true) (hd : DCtx ops sops) {k : Nat} {tr : List Tr} {E0 : Env} {H0 : AHeap} (htr : TrOk P sops k tr E0 H0)
    {ex : Nat → Bool} {Qc : Exit → Act → World → Prop} {G0 : Gh} {w0 : World}
    (hout : ∀ (f : Nat) (listed : Array Bool) (a : Act) (w : World) (G : Gh) (i : Nat) (o : Oper), f + 1 = listed.toList.count false → listed.size = ops.size → (∀ j, j < k → listed.getD j false = true) → (∀ j, k + tr.length ≤ j → listed.getD j false = ex j) →
      (∀ (j : Nat) (o : Oper), ops[j]? = some o → listed.getD j false = true → ∀ e ∈ predsOf o, listed.getD e false = true) →
      Rep N G a w (envS tr k (fun j => listed.getD j false) E0) D (heapS tr k (fun j => listed.getD j false) H0) → Ext G0 w0 G w → k + tr.length ≤ i → ops[i]? = some o → listed[i]? = some false → (∀ e ∈ predsOf o, listed.getD e false = true) →
      (∃ j, j < k + tr.length ∧ j < ops.size ∧ listed[j]? = some false) → wpOp P ops Qc i (wpAny P .any ops Qc f (listed.setIfInBounds i true)) a w)
    (cont : ∀ listed a w G, listed.size = ops.size → (∀ j, j < ops.size → listed[j]? = some (decide (j < k + tr.length) || (decide (k + tr.length ≤ j) && ex j))) → Rep N G a w (envS tr k (fun j => decide (j < k + tr.length)) E0) D (heapS tr k (fun j => decide (j < k + tr.length)) H0) → Ext G0 w0 G w → wpAny P .any ops Qc (listed.toList.count false) listed a w) :
    ∀ (f : Nat) (listed : Array Bool) (a : Act) (w : World) (G : Gh), f = listed.toList.count false → listed.size = ops.size → (∀ j, j < k → listed.getD j false = true) → (∀ j, k + tr.length ≤ j → listed.getD j false = ex j) →
      (∀ (j : Nat) (o : Oper), ops[j]? = some o → listed.getD j false = true → ∀ e ∈ predsOf o, listed.getD e false = true) →
      Rep N G a w (envS tr k (fun j => listed.getD j false) E0) D (heapS tr k (fun j => listed.getD j false) H0) → Ext G0 w0 G w → wpAny P .any ops Qc f listed a w := by
  have hlen : k + tr.length ≤ ops.size ∨ tr = [] := by
    cases htl : tr with
    | nil => exact .inr rfl
    | cons u r =>
      left
      obtain ⟨so, hso, _⟩ := htr (tr.length - 1) (tr[tr.length - 1]'(by rw [htl]; simp)) (List.getElem?_eq_getElem _)
      have := (List.getElem?_eq_some_iff.1 hso).1
      rw [hd.len, ← htl]
      have hp : 0 < tr.length := by rw [htl]; simp
      omega
  have hrep : ∀ (listed : Array Bool) (a : Act) (w : World) (G : Gh), listed.size = ops.size → (∀ j, j < ops.size → listed[j]? = some (decide (j < k + tr.length) || (decide (k + tr.length ≤ j) && ex j))) →
      Rep N G a w (envS tr k (fun j => listed.getD j false) E0) D (heapS tr k (fun j => listed.getD j false) H0) → Rep N G a w (envS tr k (fun j => decide (j < k + tr.length)) E0) D (heapS tr k (fun j => decide (j < k + tr.length)) H0) := by
    intro listed a w G hsz hfull hr
    have hag : ∀ (m : Nat) (u : Tr), tr[m]? = some u → listed.getD (k + m) false = decide (k + m < k + tr.length) := by
      intro m u hm
      have hml := (List.getElem?_eq_some_iff.1 hm).1
      have hin : k + m < ops.size := by
        rcases hlen with hl | hl
        · omega
        · rw [hl] at hml; simp at hml
      rw [Array.getD_eq_getD_getElem?, hfull _ hin]
      simp [hml]
    rw [show heapS tr k (fun j => decide (j < k + tr.length)) H0 = heapS tr k (fun j => listed.getD j false) H0 from (heapS_agree fun m u hm _ => hag m u hm).symm]
    exact hr.congr fun t => (envS_agree (fun m u hm _ => hag m u hm) rfl).symm
  intro f
  induction f with
  | zero =>
    intro listed a w G hf hsz hlo hhi hcl hr he
    have hall1 : ∀ j, j < ops.size → listed[j]? = some true := by
      intro j hj
      cases hj2 : listed[j]? with
      | none => rw [Array.getElem?_eq_none_iff] at hj2; omega
      | some b =>
        cases b with
        | true => rfl
        | false =>
          have : false ∈ listed.toList := List.mem_of_getElem? (i := j) (by simpa using hj2)
          have := List.count_pos_iff.2 this
          omega
    have hfull : ∀ j, j < ops.size → listed[j]? = some (decide (j < k + tr.length) || (decide (k + tr.length ≤ j) && ex j)) := by
      intro j hj
      rw [hall1 j hj]
      by_cases h : j < k + tr.length
      · simp [h]
      · have h1 := hhi j (by omega)
        have h2 := hall1 j hj
        rw [Array.getD_eq_getD_getElem?, h2] at h1
        simp [h, ← h1]; omega
    have := cont listed a w G hsz hfull (hrep listed a w G hsz hfull hr) he
    rw [← hf] at this
    exact this
  | succ f ih =>
    intro listed a w G hf hsz hlo hhi hcl hr he
    by_cases hdone : ∀ j, j < k + tr.length → j < ops.size → listed[j]? = some true
    · -- the stretch is done
      have hfull : ∀ j, j < ops.size → listed[j]? = some (decide (j < k + tr.length) || (decide (k + tr.length ≤ j) && ex j)) := by
        intro j hj
        by_cases h : j < k + tr.length
        · rw [hdone j h hj]; simp [h]
        · have h1 := hhi j (by omega)
          cases hj2 : listed[j]? with
          | none => rw [Array.getElem?_eq_none_iff] at hj2; omega
          | some b => rw [Array.getD_eq_getD_getElem?, hj2] at h1; simp at h1; subst h1; simp [h]; omega
      have := cont listed a w G hsz hfull (hrep listed a w G hsz hfull hr) he
      rw [← hf] at this
      exact this
    · -- some are left
      have hex : ∃ j, j < k + tr.length ∧ j < ops.size ∧ listed[j]? = some false := by
        refine Classical.byContradiction fun hno => hdone fun j h1 h2 => ?_
        cases hj2 : listed[j]? with
        | none => rw [Array.getElem?_eq_none_iff] at hj2; omega
        | some b =>
          cases b with
          | true => rfl
          | false => exact absurd ⟨j, h1, h2, hj2⟩ hno
      refine ⟨fun hready => ?_, ?_⟩
      · -- then something is ready
        exfalso
        have key : ∀ n j, j ≤ n → j < k + tr.length → j < ops.size → listed[j]? = some false → False := by
          intro n
          induction n with
          | zero =>
            intro j hjn h1 h2 h3
            have e : j = 0 := by omega
            subst e
            have : (0 : Nat) ∈ Region.ready .any ops listed := by
              rw [mem_ready]
              refine ⟨by rw [Array.getD_eq_getD_getElem?, h3]; rfl, ops[0], Array.getElem?_eq_getElem h2, fun e he hb => ?_⟩
              have := hd.back 0 _ (Array.getElem?_eq_getElem h2) e.on (by
                simp only [predsOf, List.mem_map, List.mem_filter]
                exact ⟨e, ⟨by simpa using he, hb⟩, rfl⟩)
              omega
            rw [hready] at this; cases this
          | succ n ihn =>
            intro j hjn h1 h2 h3
            by_cases hpre : ∀ e ∈ predsOf ops[j], listed.getD e false = true
            · have : j ∈ Region.ready .any ops listed := by
                rw [mem_ready]
                refine ⟨by rw [Array.getD_eq_getD_getElem?, h3]; rfl, ops[j], Array.getElem?_eq_getElem h2, fun e he hb => hpre e.on ?_⟩
                simp only [predsOf, List.mem_map, List.mem_filter]
                exact ⟨e, ⟨by simpa using he, hb⟩, rfl⟩
              rw [hready] at this; cases this
            · simp only [Classical.not_forall] at hpre
              obtain ⟨e, he, hne⟩ := hpre
              have hej := hd.back j _ (Array.getElem?_eq_getElem h2) e he
              refine ihn e (by omega) (by omega) (by omega) ?_
              cases h4 : listed[e]? with
              | none => rw [Array.getElem?_eq_none_iff] at h4; omega
              | some b => cases b with
                | true => rw [Array.getD_eq_getD_getElem?, h4] at hne; exact absurd rfl hne
                | false => rfl
        obtain ⟨j, h1, h2, h3⟩ := hex
        exact key j j (Nat.le_refl _) h1 h2 h3
      · intro i hi
        rw [mem_ready] at hi
        obtain ⟨hi0, o, ho, hpre'⟩ := hi
        have hpre : ∀ e ∈ predsOf o, listed.getD e false = true := by
          intro e he
          simp only [predsOf, List.mem_map, List.mem_filter] at he
          obtain ⟨e', ⟨h1, h2⟩, rfl⟩ := he
          exact hpre' e' (by simpa using h1) h2
        have hin : i < ops.size := (Array.getElem?_eq_some_iff.1 ho).1
        have hif : listed[i]? = some false := by
          cases h4 : listed[i]? with
          | none => rw [Array.getElem?_eq_none_iff] at h4; omega
          | some b => rw [Array.getD_eq_getD_getElem?, h4] at hi0; simp at hi0; rw [hi0]
        have hiS : listed.getD i false = false := by rw [Array.getD_eq_getD_getElem?, hif]; rfl
        have hik : k ≤ i := by
          refine Nat.le_of_not_lt fun h => ?_
          have := hlo i h
          rw [hiS] at this; cases this
        have hsome : ∀ j, j < ops.size → ∃ so, sops[j]? = some so := fun j hj => ⟨sops[j]'(by rw [← hd.len]; exact hj), List.getElem?_eq_getElem _⟩
        have hclosed := hd.cl (fun j => listed.getD j false) hcl
        by_cases hih : i < k + tr.length
        rotate_left
        · exact hout f listed a w G i o hf hsz hlo hhi hcl hr he (by omega) ho hif hpre hex
        obtain ⟨m, rfl⟩ : ∃ m, i = k + m := ⟨i - k, by omega⟩
        have hm : m < tr.length := by omega
        obtain ⟨so, hso, hsobar, hdst, hisW, hstep, hloose⟩ := htr m tr[m] (List.getElem?_eq_getElem hm)
        obtain ⟨o', ho', hchk⟩ := hall _ so hso
        rw [ho] at ho'; cases ho'
        -- what the operation reads is as in its own place
        have horder : ∀ (j : Nat) (b : SOper), sops[j]? = some b → j ≠ k + m → (if j < k + m then conf b so else conf so b) = true → listed.getD j false = decide (j < k + m) := by
          intro j b hb hne hc
          by_cases hlt : j < k + m
          · rw [if_pos hlt] at hc
            have this : listed.getD j false = true := hclosed j (k + m) b so o hlt hb hso ho hc hpre
            rw [this]; simp [hlt]
          · rw [if_neg hlt] at hc
            have hjl : j < ops.size := by rw [hd.len]; exact (List.getElem?_eq_some_iff.1 hb).1
            have hf' : listed.getD j false = false := by
              cases hq : listed.getD j false with
              | false => rfl
              | true =>
                have this : listed.getD (k + m) false = true := hclosed (k + m) j so b ops[j] (by omega) hso hb (Array.getElem?_eq_getElem hjl) hc (hcl j _ (Array.getElem?_eq_getElem hjl) hq)
                rw [hiS] at this; cases this
            rw [hf']; simp [hlt]
        have henv : ∀ t ∈ so.reads, (envS tr k (fun j => decide (j < k + m)) E0).get t = (envS tr k (fun j => listed.getD j false) E0).get t := by
          intro t ht
          refine envS_agree (fun m' u hm' hu => ?_) rfl
          by_cases hmm : m' = m
          · subst hmm; simp only [hiS]; simp
          · obtain ⟨so', hso', _, hdst', _⟩ := htr m' u hm'
            refine (horder (k + m') so' hso' (by omega) ?_).symm
            have hto : so.reads.contains t = true := by simpa using ht
            split
            · simp only [conf, touch, ← hdst', hu, hto, Bool.true_or]
            · simp only [conf, touch, ← hdst', hu, hto, Bool.true_or, Bool.or_true]
        have hheapW : (so.op.kind = 2 ∨ (so.op.kind = 1 ∧ so.loose = false)) → heapS tr k (fun j => listed.getD j false) H0 = heapS tr k (fun j => decide (j < k + m)) H0 := by
          intro hkind
          refine heapS_agree fun m' u hm' hu => ?_
          by_cases hmm : m' = m
          · subst hmm; simp only [hiS]; simp
          · obtain ⟨so', hso', _, _, hisW', _⟩ := htr m' u hm'
            have hk2 : so'.op.kind = 2 := by rw [hu] at hisW'; simpa using hisW'.symm
            refine horder (k + m') so' hso' (by omega) ?_
            rcases hkind with hk | ⟨hk, hl⟩
            · simp [conf, hk, hk2]
            · simp [conf, hk, hk2, hl]
        -- the step, here
        have hstepHere : ∃ H', StepD P so (envS tr k (fun j => listed.getD j false) E0) (heapS tr k (fun j => listed.getD j false) H0) tr[m].x H' ∧ H' = heapS tr k (fun j => listed.getD j false || j == k + m) H0 := by
          have hk3 := hd.news _ so hso hsobar
          have hkind : so.op.kind = 0 ∨ so.op.kind = 1 ∨ so.op.kind = 2 := by
            have : so.op.kind ≤ 3 := by cases so.op <;> simp [SOp.kind]
            omega
          have hnotW : so.op.kind ≠ 2 → heapS tr k (fun j => listed.getD j false || j == k + m) H0 = heapS tr k (fun j => listed.getD j false) H0 := by
            intro hk
            refine heapS_agree fun m' u hm' hu => ?_
            by_cases hmm : m' = m
            · subst hmm
              exfalso
              rw [List.getElem?_eq_getElem hm] at hm'
              cases hm'
              rw [hisW] at hu
              exact hk (by simpa using hu)
            · have : ¬ (k + m' = k + m) := by omega
              simp [this, hmm]
          rcases hkind with hk | hk | hk
          · obtain ⟨_, h2⟩ := stepD_pure hk hstep
            exact ⟨_, stepD_congr henv (h2 _), (hnotW (by omega)).symm⟩
          · by_cases hl : so.loose = true
            · exact ⟨_, stepD_congr henv (hloose hk hl _), (hnotW (by omega)).symm⟩
            · have e := hheapW (.inr ⟨hk, by simpa using hl⟩)
              have h2 := stepD_load hk hstep
              rw [hnotW (by omega), e]
              exact ⟨_, stepD_congr henv hstep, h2⟩
          · have e := hheapW (.inl hk)
            rw [e]
            refine ⟨_, stepD_congr henv hstep, ?_⟩
            refine (heapS_last (List.getElem?_eq_getElem hm) (by rw [hisW, hk]; rfl) rfl fun m' u hm' hlt hu => ?_).symm
            obtain ⟨so', hso', _, _, hisW', _⟩ := htr m' u hm'
            have hk2 : so'.op.kind = 2 := by rw [hu] at hisW'; simpa using hisW'.symm
            have := horder (k + m') so' hso' (by omega) (by simp [conf, hk, hk2])
            simp only [this]; simp; omega
        obtain ⟨H', hst, hH'⟩ := hstepHere
        refine stepD_ok ho hchk hr hst fun G' a' w' hr' he' => ?_
        have hsetD : ∀ j, (listed.setIfInBounds (k + m) true).getD j false = (listed.getD j false || j == k + m) := by
          intro j
          by_cases hj : j = k + m
          · subst hj
            simp only [Array.getD_eq_getD_getElem?, beq_self_eq_true, Bool.or_true]
            rw [Array.getElem?_setIfInBounds_self]
            simp [show k + m < listed.size by omega]
          · rw [getD_set_ne false (Ne.symm hj)]
            simp [hj]
        refine ih (listed.setIfInBounds (k + m) true) a' w' G' ?_ (by simpa using hsz) ?_ ?_ ?_ ?_ (he.trans he')
        · have := cnt_set hif; omega
        · intro j hj; rw [hsetD, hlo j hj]; rfl
        · intro j hj; rw [hsetD, hhi j hj]; simp; omega
        · intro j o' ho' hj e hee
          rw [hsetD] at hj ⊢
          rw [Bool.or_eq_true] at hj
          rcases hj with hj | hj
          · rw [hcl j o' ho' hj e hee]; rfl
          · have : j = k + m := by simpa using hj
            subst this
            rw [ho] at ho'; cases ho'
            rw [hpre e hee]; rfl
        · rw [show (fun j => (listed.setIfInBounds (k + m) true).getD j false) = (fun j => listed.getD j false || j == k + m) from funext hsetD, ← hH']
          refine hr'.congr fun t => ?_
          rw [envS_add (S := fun j => listed.getD j false) (List.getElem?_eq_getElem hm) ?_ rfl, hdst]
          intro m' v hv hne hu hv2
          obtain ⟨so', hso', _, hdst', _⟩ := htr m' v hv
          rw [hdst] at hu
          rw [hdst'] at hv2
          rcases Nat.lt_or_gt_of_ne hne with hlt | hlt
          · have := hd.dist (k + m') (k + m) so' so (by omega) hso' hso
            simp [sameDst, hu, hv2] at this
          · have := hd.dist (k + m) (k + m') so so' (by omega) hso hso'
            simp [sameDst, hu, hv2] at this
end
end Go.Proofs.YtjgkfgocgknjjaaDoor.Abs
