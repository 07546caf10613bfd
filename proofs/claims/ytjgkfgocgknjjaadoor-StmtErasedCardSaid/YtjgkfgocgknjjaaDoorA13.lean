/- The abstract machine, part 13: a region whose order is drawn, told in its own order. -/
import Derived.Test.YtjgkfgocgknjjaaDoorA12
set_option linter.unusedVariables false
set_option linter.unusedSimpArgs false
namespace Go.Proofs.YtjgkfgocgknjjaaDoor.Abs
open Go Go.RowKit

abbrev Seen := List (SOper × Env × AV)
def rgnDet (P : Program) (Hs : List AHeap) (Ls : Seen) (o : SOper) (E : Env) (H : AHeap) (K : Env → AHeap → List AHeap → Seen → Prop) : Prop :=
  match o.op with
  | .call f args => match E.evs args with
    | some xs => ∃ r, PCall P f xs r ∧ K (E.put o.dst r) H Hs Ls
    | none => False
  | .callv y args => match E.ev y, E.evs args with
    | some (.fn (.func f) first caps), some xs => ∃ r, fnOk P f = true ∧ PCall P f (first ++ xs ++ caps) r ∧ K (E.put o.dst r) H Hs Ls
    | _, _ => False
  | s => match evalS 0 s E H with
    | some (x, H') =>
      if s.kind = 2 then (∀ l ∈ Ls, evalS 0 l.1.op l.2.1 H' = some (l.2.2, H')) ∧ K (E.put o.dst x) H' (H' :: Hs) Ls
      else if s.kind = 1 ∧ o.loose = true then (∀ J ∈ Hs, evalS 0 s E J = some (x, J)) ∧ K (E.put o.dst x) H' Hs ((o, E, x) :: Ls)
      else K (E.put o.dst x) H' Hs Ls
    | none => False
def rgnD (P : Program) : List AHeap → Seen → List SOper → Env → AHeap → (Env → AHeap → Prop) → Prop
  | _, _, [], E, H, K => K E H
  | Hs, Ls, o :: os, E, H, K =>
    if o.bar = true then rgnGuard P o E H fun E' H' => rgnD P [H'] [] os E' H' K
    else match o.guard with
      | none => rgnDet P Hs Ls o E H fun E' H' Hs' Ls' => rgnD P Hs' Ls' os E' H' K
      | some (t, want) => match E.get t with
        | some (.bool b) => (b = want → rgnDet P Hs Ls o (E.put (some t) (.bool want)) H fun E' H' Hs' Ls' => rgnD P Hs' Ls' os E' H' K) ∧
            (b = (!want) → rgnD P Hs Ls os ((E.put (some t) (.bool (!want))).put o.dst (.tup [])) H K)
        | some (.tup _) => rgnD P Hs Ls os (E.put o.dst (.tup [])) H K
        | _ => False

section
variable {P : Program} {N : Nat} {D : List ADef} {ops : Array Oper} {sops : List SOper}

structure SegInv (P : Program) (sops : List SOper) (k : Nat) (E0 : Env) (H0 : AHeap) (tr : List Tr) (E : Env) (H : AHeap) (Hs : List AHeap) (Ls : Seen) : Prop where
  env : ∀ t, E.get t = (envS tr k (fun j => decide (j < k + tr.length)) E0).get t
  heap : H = heapS tr k (fun j => decide (j < k + tr.length)) H0
  hs : ∀ S, heapS tr k S H0 ∈ Hs
  ls : ∀ (m : Nat) (u : Tr) (so : SOper), tr[m]? = some u → sops[k + m]? = some so → so.op.kind = 1 → so.loose = true →
    (∃ E', (so, E', u.x) ∈ Ls ∧ ∀ t, E'.get t = (envS tr k (fun j => decide (j < k + m)) E0).get t) ∨ wantA so (envS tr k (fun j => decide (j < k + m)) E0) = some false
  ok : TrOk P sops k tr E0 H0

theorem stepD_true {o : SOper} {E : Env} {H H' : AHeap} {x : AV} (hk : o.op.kind = 1) (h : evalS 0 o.op E H = some (x, H')) (hw : wantA o E = some true) : StepD P o E H x H' := by
  unfold StepD
  rw [hw]
  simp only
  cases hop : o.op <;> rw [hop] at h hk <;> simp [SOp.kind] at hk
  exact ⟨rfl, h⟩

theorem seg_step {k : Nat} {E0 : Env} {H0 : AHeap} {tr : List Tr} {E : Env} {H : AHeap} {Hs : List AHeap} {Ls : Seen} (h : SegInv P sops k E0 H0 tr E H Hs Ls) {o : SOper} (ho : sops[k + tr.length]? = some o) (hb : o.bar = false) {x : AV} {H1 : AHeap}
    (hst : StepD P o E H x H1) {Hs' : List AHeap} {Ls' : Seen} (hHs : ∀ J ∈ Hs, J ∈ Hs') (hH1 : H1 ∈ Hs') (hLs : ∀ l ∈ Ls, l ∈ Ls')
    (hloose : o.op.kind = 1 → o.loose = true → (∀ J ∈ Hs, StepD P o E J x J) ∧ ((o, E, x) ∈ Ls' ∨ wantA o E = some false))
    (hstore : o.op.kind = 2 → H1 = H ∨ ∀ l ∈ Ls, evalS 0 l.1.op l.2.1 H1 = some (l.2.2, H1)) (hk : o.op.kind ≠ 2 → H1 = H) {E1 : Env} (hE1 : ∀ t, E1.get t = (E.put o.dst x).get t) :
    SegInv P sops k E0 H0 (tr ++ [⟨o.dst, x, o.op.kind == 2, H1⟩]) E1 H1 Hs' Ls' := by
  have esn : ∀ (m : Nat), m ≤ tr.length → ∀ E0, envS (tr ++ [⟨o.dst, x, o.op.kind == 2, H1⟩]) k (fun j => decide (j < k + m)) E0 = envS tr k (fun j => decide (j < k + m)) E0 := by
    intro m hm E0
    rw [envS_snoc, if_neg (by simp; omega)]
  have hsn : ∀ (m : Nat), m ≤ tr.length → heapS (tr ++ [⟨o.dst, x, o.op.kind == 2, H1⟩]) k (fun j => decide (j < k + m)) H0 = heapS tr k (fun j => decide (j < k + m)) H0 := by
    intro m hm
    rw [heapS_snoc]
    have : (decide (k + tr.length < k + m) && (o.op.kind == 2)) = false := by simp; omega
    rw [if_neg (by rw [this]; simp)]
  have eall : ∀ {tr' : List Tr} (E0 : Env) (t : Nat), (envS tr' k (fun j => decide (j < k + tr'.length)) E0).get t = (envS tr' k (fun _ => true) E0).get t := fun E0 t =>
    envS_agree (fun m u hm _ => by have := (List.getElem?_eq_some_iff.1 hm).1; simp [this]) rfl
  have hall : ∀ {tr' : List Tr}, heapS tr' k (fun j => decide (j < k + tr'.length)) H0 = heapS tr' k (fun _ => true) H0 :=
    heapS_agree (fun m u hm _ => by have := (List.getElem?_eq_some_iff.1 hm).1; simp [this])
  refine ⟨?_, ?_, ?_, ?_, ?_⟩
  · intro t
    rw [hE1, eall, envS_snoc, if_pos rfl, put_get, put_get]
    split
    · rfl
    · rw [h.env, eall]
  · rw [hall, heapS_snoc]
    by_cases hk2 : o.op.kind = 2
    · simp [hk2]
    · simp [hk2]; rw [hk hk2, h.heap, hall]
  · intro S
    rw [heapS_snoc]
    split
    · exact hH1
    · exact hHs _ (h.hs S)
  · intro m u so hm hso hk1 hl
    by_cases hml : m < tr.length
    · rw [List.getElem?_append_left hml] at hm
      rw [esn m (Nat.le_of_lt hml)]
      rcases h.ls m u so hm hso hk1 hl with ⟨E', h1, h2⟩ | h1
      · exact .inl ⟨E', hLs _ h1, h2⟩
      · exact .inr h1
    · rw [List.getElem?_append_right (by omega)] at hm
      have hm0 : m - tr.length = 0 := by
        by_cases c : m - tr.length = 0
        · exact c
        · rw [List.getElem?_eq_none (by simp; omega)] at hm; cases hm
      have hmm : m = tr.length := by omega
      subst hmm
      simp at hm
      subst hm
      rw [ho] at hso; cases hso
      rw [esn _ (Nat.le_refl _)]
      rcases (hloose hk1 hl).2 with h1 | h1
      · exact .inl ⟨E, h1, h.env⟩
      · exact .inr (by rw [← (ev_congr (o := o) (fun t _ => h.env t)).1]; exact h1)
  · intro m u hm
    by_cases hml : m < tr.length
    · rw [List.getElem?_append_left hml] at hm
      obtain ⟨so, a1, a2, a3, a4, a5, a6⟩ := h.ok m u hm
      refine ⟨so, a1, a2, a3, a4, by rw [esn m (Nat.le_of_lt hml), hsn m (Nat.le_of_lt hml)]; exact a5, fun hk1 hl S => ?_⟩
      rw [esn m (Nat.le_of_lt hml), heapS_snoc]
      split
      · rename_i hS
        have hk2 : o.op.kind = 2 := by simp at hS; exact hS.2
        show StepD P so _ H1 u.x H1
        rcases hstore hk2 with rfl | hst2
        · rw [h.heap]; exact a6 hk1 hl _
        · rcases h.ls m u so hm a1 hk1 hl with ⟨E', h1, h2⟩ | h1
          · have hev := hst2 _ h1
            have hw : ∃ b, wantA so (envS tr k (fun j => decide (j < k + m)) E0) = some b := by
              unfold StepD at a5
              split at a5
              · exact ⟨_, by assumption⟩
              · exact ⟨_, by assumption⟩
              · exact a5.elim
            obtain ⟨b, hw⟩ := hw
            cases b with
            | true =>
              refine stepD_congr (E := E') (fun t _ => h2 t) ?_
              exact stepD_true hk1 hev (by rw [(ev_congr (o := so) (fun t _ => h2 t)).1]; exact hw)
            | false =>
              unfold StepD at a5 ⊢
              rw [hw] at a5 ⊢
              exact ⟨a5.1, rfl⟩
          · unfold StepD at a5 ⊢
            rw [h1] at a5 ⊢
            exact ⟨a5.1, rfl⟩
      · exact a6 hk1 hl S
    · rw [List.getElem?_append_right (by omega)] at hm
      have hm0 : m - tr.length = 0 := by
        by_cases c : m - tr.length = 0
        · exact c
        · rw [List.getElem?_eq_none (by simp; omega)] at hm; cases hm
      have hmm : m = tr.length := by omega
      subst hmm
      simp at hm
      subst hm
      refine ⟨o, ho, hb, rfl, rfl, ?_, fun hk1 hl S => ?_⟩
      · rw [esn _ (Nat.le_refl _), hsn _ (Nat.le_refl _), ← h.heap]
        exact stepD_congr (fun t _ => h.env t) hst
      · rw [esn _ (Nat.le_refl _), heapS_snoc, if_neg (by simp [hk1])]
        exact stepD_congr (fun t _ => h.env t) ((hloose hk1 hl).1 _ (h.hs S))

theorem det_step {Hs : List AHeap} {Ls : Seen} {o : SOper} {E E0 : Env} {H : AHeap} {K : Env → AHeap → List AHeap → Seen → Prop} (h3 : o.op.kind ≠ 3) (hE : ∀ t, E.get t = E0.get t) (hw : wantA o E = some true) (hH : H ∈ Hs) (h : rgnDet P Hs Ls o E H K) :
    ∃ x H1 Hs' Ls', StepD P o E H x H1 ∧ (∀ J ∈ Hs, J ∈ Hs') ∧ H1 ∈ Hs' ∧ (∀ l ∈ Ls, l ∈ Ls') ∧
      (o.op.kind = 1 → o.loose = true → (∀ J ∈ Hs, StepD P o E J x J) ∧ ((o, E, x) ∈ Ls' ∨ wantA o E = some false)) ∧
      (o.op.kind = 2 → H1 = H ∨ ∀ l ∈ Ls, evalS 0 l.1.op l.2.1 H1 = some (l.2.2, H1)) ∧ (o.op.kind ≠ 2 → H1 = H) ∧ K (E.put o.dst x) H1 Hs' Ls' := by
  unfold rgnDet at h
  split at h
  · rename_i f args hop
    split at h
    case h_2 => exact h.elim
    rename_i xs hxs
    obtain ⟨r, hp, hk⟩ := h
    refine ⟨r, H, Hs, Ls, ?_, fun _ h => h, hH, fun _ h => h, fun hk => by rw [hop] at hk; simp [SOp.kind] at hk, fun hk => by rw [hop] at hk; simp [SOp.kind] at hk, fun _ => rfl, hk⟩
    unfold StepD
    rw [hw]
    simp only
    rw [hop]
    exact ⟨xs, hxs, hp, by first | trivial | rfl⟩
  · rename_i y args hop
    split at h
    case h_2 => exact h.elim
    rename_i f first caps xs hy hxs
    obtain ⟨r, hf, hp, hk⟩ := h
    refine ⟨r, H, Hs, Ls, ?_, fun _ h => h, hH, fun _ h => h, fun hk => by rw [hop] at hk; simp [SOp.kind] at hk, fun hk => by rw [hop] at hk; simp [SOp.kind] at hk, fun _ => rfl, hk⟩
    unfold StepD
    rw [hw]
    simp only
    rw [hop]
    exact ⟨f, first, caps, xs, hy, hxs, hf, hp, by first | trivial | rfl⟩
  · rename_i hn1 hn2
    split at h
    case h_2 => exact h.elim
    rename_i x H1 hev
    have hst : ∀ J J', evalS 0 o.op E J = some (x, J') → StepD P o E J x J' := by
      intro J J' hev
      unfold StepD
      rw [hw]
      simp only
      have hnews : o.op.news = false := by cases hop : o.op <;> rw [hop] at h3 <;> simp [SOp.kind] at h3 <;> rfl
      cases hop : o.op <;> rw [hop] at hev hnews <;> first | exact ⟨hnews, hev⟩ | exact absurd hop (hn1 _ _) | exact absurd hop (hn2 _ _)
    split at h
    · rename_i hk2
      exact ⟨x, H1, H1 :: Hs, Ls, hst _ _ hev, fun _ h => by simp [h], by simp, fun _ h => h, fun hk => by omega, fun _ => .inr h.1, fun hk => absurd hk2 hk, h.2⟩
    · rename_i hk2
      have hk01 : o.op.kind = 0 ∨ o.op.kind = 1 := by
        have : o.op.kind ≤ 3 := by cases o.op <;> simp [SOp.kind]
        omega
      have hsame : H1 = H := by
        rcases hk01 with hk | hk
        · exact (evalS_pure hk hev).1
        · exact evalS_load hk hev
      split at h
      · rename_i hl
        exact ⟨x, H1, Hs, (o, E, x) :: Ls, hst _ _ hev, fun _ h => h, by rw [hsame]; exact hH, fun _ h => by simp [h], fun _ _ => ⟨fun J hJ => hst _ _ (h.1 J hJ), .inl (by simp)⟩, fun hk => absurd hk hk2, fun _ => hsame, h.2⟩
      · rename_i hl
        exact ⟨x, H1, Hs, Ls, hst _ _ hev, fun _ h => h, by rw [hsame]; exact hH, fun _ h => h, fun a b => absurd ⟨a, b⟩ hl, fun hk => absurd hk hk2, fun _ => hsame, h⟩

theorem seg_all (hd : DCtx ops sops) {k : Nat} {E0 : Env} {H0 : AHeap} {K : Env → AHeap → Prop} : ∀ (os : List SOper) (tr : List Tr) (E : Env) (H : AHeap) (Hs : List AHeap) (Ls : Seen), sops.drop (k + tr.length) = os → SegInv P sops k E0 H0 tr E H Hs Ls → rgnD P Hs Ls os E H K →
    ∃ tr' E' H', TrOk P sops k tr' E0 H0 ∧ (∀ t, E'.get t = (envS tr' k (fun j => decide (j < k + tr'.length)) E0).get t) ∧ H' = heapS tr' k (fun j => decide (j < k + tr'.length)) H0 ∧
      ((sops.drop (k + tr'.length) = [] ∧ K E' H') ∨ ∃ o os', sops.drop (k + tr'.length) = o :: os' ∧ o.bar = true ∧ rgnGuard P o E' H' fun E'' H'' => rgnD P [H''] [] os' E'' H'' K)
  | [], tr, E, H, Hs, Ls, hos, hi, h => ⟨tr, E, H, hi.ok, hi.env, hi.heap, .inl ⟨hos, h⟩⟩
  | o :: os, tr, E, H, Hs, Ls, hos, hi, h => by
    have hso : sops[k + tr.length]? = some o := by
      have : (sops.drop (k + tr.length))[0]? = some o := by rw [hos]; rfl
      rw [List.getElem?_drop] at this; simpa using this
    have hnext : ∀ u : Tr, sops.drop (k + (tr ++ [u]).length) = os := by
      intro u
      have : sops.drop (k + (tr ++ [u]).length) = (sops.drop (k + tr.length)).drop 1 := by rw [List.drop_drop]; simp [Nat.add_assoc]
      rw [this, hos]; rfl
    by_cases hb : o.bar = true
    · simp only [rgnD, if_pos hb] at h
      exact ⟨tr, E, H, hi.ok, hi.env, hi.heap, .inr ⟨o, os, hos, hb, h⟩⟩
    · have hbf : o.bar = false := by simpa using hb
      simp only [rgnD, if_neg hb] at h
      have h3 := hd.news _ o hso hbf
      have hH : H ∈ Hs := by rw [hi.heap]; exact hi.hs _
      split at h
      · rename_i hg
        obtain ⟨x, H1, Hs', Ls', s1, s2, s3, s4, s5, s6, s7, s8⟩ := det_step h3 (fun _ => rfl) (by simp [wantA, hg]) hH h
        exact seg_all hd os _ _ _ _ _ (hnext _) (seg_step hi hso hbf s1 s2 s3 s4 s5 s6 s7 (fun _ => rfl)) s8
      · rename_i t want hg
        split at h
        case h_3 => exact h.elim
        case h_2 =>
          rename_i l hbt
          have hw0 : wantA o E = some false := by simp [wantA, hg, hbt]
          have hsk : ∀ J, StepD P o E J (.tup []) J := fun J => by
            unfold StepD; rw [hw0]; exact ⟨rfl, rfl⟩
          exact seg_all hd os _ _ _ _ _ (hnext _) (seg_step hi hso hbf (hsk H) (fun _ h => h) hH (fun _ h => h) (fun _ _ => ⟨fun J _ => hsk J, .inr hw0⟩) (fun _ => .inl rfl) (fun _ => rfl) (fun _ => rfl)) h
        rename_i b hbt
        have hw : wantA o E = some (b == want) := by simp [wantA, hg, hbt]
        have hput : ∀ c, b = c → ∀ u, (E.put (some t) (.bool c)).get u = E.get u := by
          intro c hc u
          rw [Env.get_put]
          split
          · rename_i e; subst e; rw [hbt, hc]
          · rfl
        by_cases hbw : b = want
        · have hp := hput want hbw
          have hw1 : wantA o (E.put (some t) (.bool want)) = some true := by
            rw [(ev_congr (o := o) (fun u _ => hp u)).1, hw, hbw]; simp
          obtain ⟨x, H1, Hs', Ls', s1, s2, s3, s4, s5, s6, s7, s8⟩ := det_step h3 hp hw1 hH (h.1 hbw)
          have hi' : SegInv P sops k E0 H0 tr (E.put (some t) (.bool want)) H Hs Ls := ⟨fun u => by rw [hp, hi.env], hi.heap, hi.hs, hi.ls, hi.ok⟩
          exact seg_all hd os _ _ _ _ _ (hnext _) (seg_step hi' hso hbf s1 s2 s3 s4 s5 s6 s7 (fun _ => rfl)) s8
        · have hbn : b = !want := by cases b <;> cases want <;> simp_all
          have hp := hput (!want) hbn
          have hw0 : wantA o (E.put (some t) (.bool (!want))) = some false := by
            rw [(ev_congr (o := o) (fun u _ => hp u)).1, hw, hbn]; cases want <;> rfl
          have hi' : SegInv P sops k E0 H0 tr (E.put (some t) (.bool (!want))) H Hs Ls := ⟨fun u => by rw [hp, hi.env], hi.heap, hi.hs, hi.ls, hi.ok⟩
          have hsk : ∀ J, StepD P o (E.put (some t) (.bool (!want))) J (.tup []) J := fun J => by
            unfold StepD; rw [hw0]; exact ⟨rfl, rfl⟩
          exact seg_all hd os _ _ _ _ _ (hnext _) (seg_step hi' hso hbf (hsk H) (fun _ h => h) hH (fun _ h => h) (fun _ _ => ⟨fun J _ => hsk J, .inr hw0⟩) (fun _ => .inl rfl) (fun _ => rfl) (fun _ => rfl)) (h.2 hbn)

/-! A floating entry. -/
theorem heapS_nw {S : Nat → Bool} : ∀ {tr : List Tr} {k : Nat} {H : AHeap}, (∀ u ∈ tr, u.isW = false) → heapS tr k S H = H
  | [], _, _, _ => rfl
  | u :: r, k, H, h => by
    simp only [heapS]
    rw [h u (by simp)]
    simpa using heapS_nw (tr := r) fun v hv => h v (by simp [hv])
def Tr.at (u : Tr) (J : AHeap) : Tr := ⟨u.dst, u.x, u.isW, J⟩
theorem envS_at {S : Nat → Bool} {J : AHeap} : ∀ {tr : List Tr} {k : Nat} {E : Env}, envS (tr.map fun u => u.at J) k S E = envS tr k S E
  | [], _, _ => rfl
  | u :: r, k, E => by simp only [List.map_cons, envS]; exact envS_at (tr := r)
theorem ldA_frame {agg : Bool} {n : Nat} {p x : AV} {H : AHeap} (l : AHeap) (h : ldA agg n p H = some x) : ldA agg n p (H ++ l) = some x := by
  unfold ldA at h ⊢
  split
  · exact h
  · rename_i b g r o
    simp only at h
    split at h
    · rename_i g' rs hb
      rw [List.getElem?_append_left (List.getElem?_eq_some_iff.1 hb).1, hb]
      exact h
    · cases h
  · simp at h
theorem stepD_frame {P : Program} {o : SOper} {E : Env} {H H' : AHeap} {x : AV} (l : AHeap) (hk : o.op.kind ≤ 1) (k : StepD P o E H x H') : StepD P o E (H ++ l) x (H ++ l) := by
  by_cases h0 : o.op.kind = 0
  · exact (stepD_pure h0 k).2 _
  · have h1 : o.op.kind = 1 := by omega
    unfold StepD at k ⊢
    split at k
    · exact ⟨k.1, rfl⟩
    · cases hop : o.op with
      | load agg n y =>
        rw [hop] at k
        simp only at k ⊢
        refine ⟨k.1, ?_⟩
        have k2 := k.2
        simp only [evalS] at k2 ⊢
        split at k2
        · rename_i p hp
          split at k2
          · rename_i v hv
            cases k2
            rw [ldA_frame l hv]
          · cases k2
        · cases k2
      | _ => rw [hop] at h1; simp [SOp.kind] at h1
    · exact k.elim
theorem drawn_main (hall : ∀ (j : Nat) (so : SOper), sops[j]? = some so → ∃ o, ops[j]? = some o ∧ chkOper P N ops o so = true) (hd : DCtx ops sops) {Q : APost} {G0 : Gh} {w0 : World} :
    ∀ (r k : Nat) (listed : Array Bool) (a : Act) (w : World) (G : Gh) (E : Env) (H : AHeap), sops.length - k = r → k ≤ sops.length → listed.size = ops.size → (∀ j, j < ops.size → listed[j]? = some (decide (j < k))) → Rep N G a w E D H → Ext G0 w0 G w →
      rgnD P [H] [] (sops.drop k) E H (fun E' H' => Q .normal E' D H') → wpAny P .any ops (CPost N G0 w0 Q) (listed.toList.count false) listed a w := by
  intro r
  induction r using Nat.strongRecOn with
  | _ r ih =>
    intro k listed a w G E H hr hk hsz hl hrep he h
    have hgetD : ∀ (l : Array Bool) (m : Nat), l.size = ops.size → m ≤ ops.size → (∀ j, j < ops.size → l[j]? = some (decide (j < m))) → ∀ j, l.getD j false = decide (j < m) := by
      intro l m hs hm hl j
      by_cases hj : j < ops.size
      · rw [Array.getD_eq_getD_getElem?, hl j hj]; rfl
      · rw [Array.getD_eq_getD_getElem?, Array.getElem?_eq_none (by omega)]; simp; omega
    have hkn : k ≤ ops.size := by rw [hd.len]; exact hk
    have hlD := hgetD listed k hsz hkn hl
    obtain ⟨tr, E', H', hok, hE', hH', hend⟩ := seg_all (k := k) (E0 := E) (H0 := H) (K := fun E' H' => Q .normal E' D H') hd (sops.drop k) [] E H [H] [] (by simp)
      ⟨fun t => rfl, rfl, fun S => by simp [heapS], fun m u so hm => by simp at hm, fun m u hm => by simp at hm⟩ h
    have hkt : k + tr.length ≤ ops.size := by
      rw [hd.len]
      cases htl : tr with
      | nil => simpa using hk
      | cons u r' =>
        obtain ⟨so, hso, _⟩ := hok (tr.length - 1) (tr[tr.length - 1]'(by rw [htl]; simp)) (List.getElem?_eq_getElem _)
        have := (List.getElem?_eq_some_iff.1 hso).1
        have hp : 0 < tr.length := by rw [htl]; simp
        rw [← htl]; omega
    have hout0 : ∀ (listed : Array Bool) (i : Nat) (oi : Oper), listed.size = ops.size → (∀ j, k + tr.length ≤ j → listed.getD j false = false) →
        (∀ (j : Nat) (o : Oper), ops[j]? = some o → listed.getD j false = true → ∀ e ∈ predsOf o, listed.getD e false = true) → k + tr.length ≤ i → ops[i]? = some oi → (∀ e ∈ predsOf oi, listed.getD e false = true) →
        (∃ j, j < k + tr.length ∧ j < ops.size ∧ listed[j]? = some false) → ∃ o os', sops.drop (k + tr.length) = o :: os' ∧ i = k + tr.length ∧ o.bar = true ∧ o.loose = true ∧ rgnGuard P o E' H' fun E'' H'' => rgnD P [H''] [] os' E'' H'' fun E' H' => Q .normal E' D H' := by
      intro listed i oi hsz hhi hcl hi hoi hpre hex
      have hil : i < ops.size := (Array.getElem?_eq_some_iff.1 hoi).1
      have hsi : sops[i]? = some (sops[i]'(by rw [← hd.len]; exact hil)) := List.getElem?_eq_getElem _
      rcases hend with ⟨h1, _⟩ | ⟨o, os', h1, h2, h3⟩
      · have : sops.length ≤ k + tr.length := List.drop_eq_nil_iff.1 h1
        rw [← hd.len] at this; omega
      · have hso : sops[k + tr.length]? = some o := by
          have : (sops.drop (k + tr.length))[0]? = some o := by rw [h1]; rfl
          rw [List.getElem?_drop] at this; simpa using this
        refine ⟨o, os', h1, ?_, h2, ?_, h3⟩
        · refine Classical.byContradiction fun hne => ?_
          have : listed.getD (k + tr.length) false = true := hd.cl (fun j => listed.getD j false) hcl (k + tr.length) i o _ oi (by omega) hso hsi hoi (by simp [conf, h2]) hpre
          rw [hhi _ (Nat.le_refl _)] at this; cases this
        · cases hl : o.loose with
          | true => rfl
          | false =>
            exfalso
            have hie : i = k + tr.length := by
              refine Classical.byContradiction fun hne => ?_
              have : listed.getD (k + tr.length) false = true := hd.cl (fun j => listed.getD j false) hcl (k + tr.length) i o _ oi (by omega) hso hsi hoi (by simp [conf, h2]) hpre
              rw [hhi _ (Nat.le_refl _)] at this; cases this
            subst hie
            obtain ⟨j, p1, p2, p3⟩ := hex
            have hsj : sops[j]? = some (sops[j]'(by rw [← hd.len]; exact p2)) := List.getElem?_eq_getElem _
            have : listed.getD j false = true := hd.cl (fun j => listed.getD j false) hcl j (k + tr.length) _ o oi p1 hsj hso hoi (by simp [conf, h2, hl]) hpre
            rw [Array.getD_eq_getD_getElem?, p3] at this; cases this
    refine seg_any (D := D) hall hd (k := k) (tr := tr) (E0 := E) (H0 := H) hok (ex := fun _ => false) ?_ ?_ _ listed a w G rfl hsz (fun j hj => by rw [hlD]; simp [hj]) (fun j hj => by rw [hlD]; simp; omega) ?_ ?_ he
    · intro f1 l1 a1 w1 G1 i1 o1 hf1 hsz1 hlo1 hhi1 hcl1 hr1 he1 hi1 ho1 hif1 hpre1 hex1
      obtain ⟨o, os', h1, rfl, h2, hlo, h3⟩ := hout0 l1 i1 o1 hsz1 hhi1 hcl1 hi1 ho1 hpre1 hex1
      have hso : sops[k + tr.length]? = some o := by
        have : (sops.drop (k + tr.length))[0]? = some o := by rw [h1]; rfl
        rw [List.getElem?_drop] at this; simpa using this
      obtain ⟨fal, fgu, fpre, fnext⟩ := hd.flt _ o hso h2 hlo
      obtain ⟨op, hop, hchk⟩ := hall _ o hso
      rw [ho1] at hop; cases hop
      obtain ⟨zero, hz⟩ : ∃ zero, o.op = .alloc zero := by
        cases hq : o.op <;> rw [hq] at fal <;> simp [isAl] at fal
        exact ⟨_, rfl⟩
      have hkind : ∀ (m : Nat) (u : Tr), tr[m]? = some u → ∃ so, sops[k + m]? = some so ∧ so.bar = false ∧ so.op.kind ≤ 1 ∧ touch so o = false ∧ u.dst = so.dst ∧ u.isW = false := by
        intro m u hm
        obtain ⟨so, a1, a2, a3, a4, _⟩ := hok m u hm
        have hml := (List.getElem?_eq_some_iff.1 hm).1
        obtain ⟨b1, b2, b3⟩ := fpre (k + m) so (by omega) a1
        refine ⟨so, a1, b1, b2, b3, a3, ?_⟩
        rw [a4]; simp; omega
      have hnw : ∀ u ∈ tr, u.isW = false := by
        intro u hu
        obtain ⟨m, hm⟩ := mem_get hu
        obtain ⟨_, _, _, _, _, _, h⟩ := hkind m u hm
        exact h
      rw [heapS_nw hnw] at hr1 hH'
      subst hH'
      have h3' : ∀ g, rgnD P [H' ++ [some (.rows g [zero])]] [] os' (E'.put o.dst (.ptr H'.length g 0 0)) (H' ++ [some (.rows g [zero])]) fun E' H' => Q .normal E' D H' := by
        intro g
        unfold rgnGuard at h3
        rw [fgu] at h3
        simp only [rgnOne, hz] at h3
        have := h3
        simp only [SOp.news, if_true, evalS] at this
        exact this g
      refine guard_ok ho1 hchk hr1 (K := fun E2 H2 => ∃ g, E2 = (envS tr k (fun j => l1.getD j false) E).put o.dst (.ptr H'.length g 0 0) ∧ H2 = H' ++ [some (.rows g [zero])]) ?_ fun G2 a2 w2 E2 H2 hr2 he2 hk2 => ?_
      · unfold rgnGuard
        rw [fgu]
        simp only [rgnOne, hz]
        simp only [SOp.news, if_true, evalS]
        exact fun g => ⟨g, rfl, rfl⟩
      obtain ⟨g, rfl, rfl⟩ := hk2
      have hdst : ∀ (m : Nat) (u : Tr), tr[m]? = some u → ∀ d, o.dst = some d → u.dst ≠ some d := by
        intro m u hm d hd' hu
        obtain ⟨so, a1, _, _, _, a5, _⟩ := hkind m u hm
        have hml := (List.getElem?_eq_some_iff.1 hm).1
        have := hd.dist (k + m) (k + tr.length) so o (by omega) a1 hso
        rw [a5] at hu
        simp [sameDst, hu, hd'] at this
      have hreads : ∀ (m : Nat) (so : SOper), m < tr.length → sops[k + m]? = some so → ∀ t ∈ so.reads, (E.put o.dst (.ptr H'.length g 0 0)).get t = E.get t := by
        intro m so hm hs t ht
        obtain ⟨_, _, b3⟩ := fpre (k + m) so (by omega) hs
        cases hod : o.dst with
        | none => rfl
        | some d =>
          rw [Env.get_put]
          split
          · rename_i e; subst e
            rw [touch, hod] at b3
            simp only [Bool.or_eq_false_iff] at b3
            have := b3.2
            simp at this
            exact absurd ht this
          · rfl
      have hput : ∀ (S : Nat → Bool) (t : Nat), (envS tr k S (E.put o.dst (.ptr H'.length g 0 0))).get t = ((envS tr k S E).put o.dst (.ptr H'.length g 0 0)).get t := by
        intro S t
        cases hod : o.dst with
        | none => rfl
        | some d =>
          by_cases hdt : d = t
          · subst hdt
            rw [Env.get_put, if_pos rfl]
            have := envS_agree (S := S) (S' := fun _ => false) (t := d) (tr := tr) (k := k) (E := E.put (some d) (.ptr H'.length g 0 0)) (E' := E.put (some d) (.ptr H'.length g 0 0)) (fun m u hm hu => absurd hu (hdst m u hm d hod)) rfl
            rw [this]
            have gen : ∀ (tr : List Tr) (k : Nat) (E : Env), envS tr k (fun _ => false) E = E := by
              intro tr
              induction tr with
              | nil => intro k E; rfl
              | cons a tr ihh => intro k E; simp only [envS]; exact ihh _ _
            rw [gen, Env.get_put, if_pos rfl]
          · rw [Env.get_put, if_neg hdt]
            exact envS_agree (fun m u hm hu => rfl) (by rw [Env.get_put, if_neg hdt])
      have hsetD : ∀ j, (l1.setIfInBounds (k + tr.length) true).getD j false = (l1.getD j false || j == k + tr.length) := by
        intro j
        have hin := (Array.getElem?_eq_some_iff.1 hif1).1
        by_cases hj : j = k + tr.length
        · subst hj
          simp only [Array.getD_eq_getD_getElem?, beq_self_eq_true, Bool.or_true]
          rw [Array.getElem?_setIfInBounds_self]
          simp [hin]
        · rw [getD_set_ne false (Ne.symm hj)]
          simp [hj]
      have hbl : k + tr.length < ops.size := (Array.getElem?_eq_some_iff.1 ho1).1
      have htr2 : TrOk P sops k (tr.map fun u => u.at (H' ++ [some (.rows g [zero])])) (E.put o.dst (.ptr H'.length g 0 0)) (H' ++ [some (.rows g [zero])]) := by
        intro m u2 hm2
        rw [List.getElem?_map] at hm2
        cases hm : tr[m]? with
        | none => rw [hm] at hm2; cases hm2
        | some u =>
        rw [hm] at hm2
        cases hm2
        obtain ⟨so, a1, a2, a3, a4, a5, a6⟩ := hok m u hm
        have hml := (List.getElem?_eq_some_iff.1 hm).1
        obtain ⟨b1, b2, b3⟩ := fpre (k + m) so (by omega) a1
        have hnw2 : ∀ v ∈ (tr.map fun u => u.at (H' ++ [some (.rows g [zero])])), v.isW = false := by
          intro v hv
          obtain ⟨q, hq, rfl⟩ := List.mem_map.1 hv
          exact hnw q hq
        rw [heapS_nw hnw] at a5
        have hst : StepD P so (envS (tr.map fun u => u.at (H' ++ [some (.rows g [zero])])) k (fun j => decide (j < k + m)) (E.put o.dst (.ptr H'.length g 0 0))) (H' ++ [some (.rows g [zero])]) u.x (H' ++ [some (.rows g [zero])]) := by
          refine stepD_congr (E := envS tr k (fun j => decide (j < k + m)) E) (fun t ht => ?_) (stepD_frame _ b2 a5)
          rw [envS_at]
          exact envS_agree (fun m u hm hu => rfl) (hreads m so hml a1 t ht).symm
        refine ⟨so, a1, a2, a3, a4, ?_, fun _ _ S => ?_⟩
        · rw [heapS_nw hnw2]; exact hst
        · rw [heapS_nw hnw2]; exact hst
      have hlenm : (tr.map fun u => u.at (H' ++ [some (.rows g [zero])])).length = tr.length := by simp
      have hnw2 : ∀ v ∈ (tr.map fun u => u.at (H' ++ [some (.rows g [zero])])), v.isW = false := by
        intro v hv
        obtain ⟨q, hq, rfl⟩ := List.mem_map.1 hv
        exact hnw q hq
      refine seg_any (D := D) hall hd (k := k) (tr := tr.map fun u => u.at (H' ++ [some (.rows g [zero])])) (E0 := E.put o.dst (.ptr H'.length g 0 0)) (H0 := H' ++ [some (.rows g [zero])]) htr2 (ex := fun j => j == k + tr.length) ?_ ?_ f1 (l1.setIfInBounds (k + tr.length) true) a2 w2 G2 ?_ (by simpa using hsz1) ?_ ?_ ?_ ?_ (he1.trans he2)
      · intro f3 l3 a3 w3 G3 i3 o3 hf3 hsz3 hlo3 hhi3 hcl3 hr3 he3 hi3 ho3 hif3 hpre3 hex3
        exfalso
        rw [hlenm] at hi3 hhi3 hex3
        have hil : i3 < ops.size := (Array.getElem?_eq_some_iff.1 ho3).1
        have hsi : sops[i3]? = some (sops[i3]'(by rw [← hd.len]; exact hil)) := List.getElem?_eq_getElem _
        have hi4 : k + tr.length < i3 := by
          refine Nat.lt_of_le_of_ne hi3 fun e => ?_
          have := hhi3 i3 hi3
          rw [Array.getD_eq_getD_getElem?, hif3, ← e] at this
          simp at this
        have hsn : sops[k + tr.length + 1]? = some (sops[k + tr.length + 1]'(by rw [← hd.len]; omega)) := List.getElem?_eq_getElem _
        obtain ⟨n1, n2⟩ := fnext _ hsn
        by_cases hi5 : i3 = k + tr.length + 1
        · subst hi5
          obtain ⟨j, p1, p2, p3⟩ := hex3
          have hsj : sops[j]? = some (sops[j]'(by rw [← hd.len]; exact p2)) := List.getElem?_eq_getElem _
          have : l3.getD j false = true := hd.cl (fun j => l3.getD j false) hcl3 j (k + tr.length + 1) _ _ o3 (by omega) hsj hsn ho3 (by simp [conf, n1, n2]) hpre3
          rw [Array.getD_eq_getD_getElem?, p3] at this; cases this
        · have : l3.getD (k + tr.length + 1) false = true := hd.cl (fun j => l3.getD j false) hcl3 (k + tr.length + 1) i3 _ _ o3 (by omega) hsn hsi ho3 (by simp [conf, n1]) hpre3
          rw [hhi3 _ (by omega)] at this
          simp at this
      · intro l3 a3 w3 G3 hsz3 hl3 hr3 he3
        rw [hlenm] at hl3 hr3
        rw [heapS_nw hnw2, envS_at] at hr3
        have hr4 : Rep N G3 a3 w3 (E'.put o.dst (.ptr H'.length g 0 0)) D (H' ++ [some (.rows g [zero])]) := by
          refine hr3.congr fun t => ?_
          rw [hput]
          cases hod : o.dst with
          | none => exact hE' t
          | some d =>
            rw [Env.get_put, Env.get_put]
            split
            · rfl
            · exact hE' t
        refine ih (sops.length - (k + tr.length + 1)) ?_ (k + tr.length + 1) l3 a3 w3 G3 _ _ rfl ?_ hsz3 ?_ hr4 he3 ?_
        · rw [← hr]; rw [hd.len] at hbl; omega
        · rw [hd.len] at hbl; omega
        · intro j hj
          rw [hl3 j hj]
          congr 1
          rw [Bool.eq_iff_iff]
          simp
          omega
        · have : sops.drop (k + tr.length + 1) = os' := by
            have : sops.drop (k + tr.length + 1) = (sops.drop (k + tr.length)).drop 1 := by rw [List.drop_drop]
            rw [this, h1]; rfl
          rw [this]; exact h3' g
      · have := cnt_set hif1; omega
      · intro j hj; rw [hsetD, hlo1 j hj]; rfl
      · intro j hj
        rw [hlenm] at hj
        rw [hsetD, hhi1 j hj]; simp
      · intro j oj hoj hj e hee
        rw [hsetD] at hj ⊢
        rw [Bool.or_eq_true] at hj
        rcases hj with hj | hj
        · rw [hcl1 j oj hoj hj e hee]; rfl
        · have : j = k + tr.length := by simpa using hj
          subst this
          rw [ho1] at hoj; cases hoj
          rw [hpre1 e hee]; rfl
      · rw [heapS_nw hnw2, envS_at]
        have e1 : ∀ t, (envS tr k (fun j => (l1.setIfInBounds (k + tr.length) true).getD j false) (E.put o.dst (.ptr H'.length g 0 0))).get t = ((envS tr k (fun j => l1.getD j false) E).put o.dst (.ptr H'.length g 0 0)).get t := by
          intro t
          rw [← hput]
          refine envS_agree (fun m u hm hu => ?_) rfl
          have hml := (List.getElem?_eq_some_iff.1 hm).1
          simp only [hsetD]
          have : ¬ (k + m = k + tr.length) := by omega
          simp [this]
          omega
        exact hr2.congr e1
    · intro listed' a' w' G' hsz' hl0' hrep' he'
      have hl' : ∀ j, j < ops.size → listed'[j]? = some (decide (j < k + tr.length)) := fun j hj => by rw [hl0' j hj]; simp
      have hrep'' : Rep N G' a' w' E' D H' := by rw [hH']; exact hrep'.congr hE'
      have hlD' := hgetD listed' (k + tr.length) hsz' hkt hl'
      rcases hend with ⟨h1, h2⟩ | ⟨o, os', h1, h2, h3⟩
      · have hn : ops.size = k + tr.length := by
          have : sops.length ≤ k + tr.length := List.drop_eq_nil_iff.1 h1
          rw [← hd.len] at this; omega
        have hc : listed'.toList.count false = 0 := by
          rw [List.count_eq_zero]
          intro hm
          obtain ⟨j, hj⟩ := mem_get hm
          have hj' : listed'[j]? = some false := by simpa using hj
          have hjl : j < ops.size := by rw [← hsz']; exact (Array.getElem?_eq_some_iff.1 hj').1
          rw [hl' j hjl] at hj'
          simp at hj'
          omega
        rw [hc]
        refine ⟨?_, .normal, G', E', D, H', rfl, hrep'', he', h2⟩
        rw [List.eq_nil_iff_forall_not_mem]
        intro j hj
        rw [mem_ready] at hj
        obtain ⟨hj0, o, ho, _⟩ := hj
        have hjl : j < ops.size := (Array.getElem?_eq_some_iff.1 ho).1
        rw [Array.getD_eq_getD_getElem?, hl' j hjl] at hj0
        simp at hj0
        omega
      · have hso : sops[k + tr.length]? = some o := by
          have : (sops.drop (k + tr.length))[0]? = some o := by rw [h1]; rfl
          rw [List.getElem?_drop] at this; simpa using this
        have hbl : k + tr.length < ops.size := by rw [hd.len]; exact (List.getElem?_eq_some_iff.1 hso).1
        have hfal : listed'[k + tr.length]? = some false := by rw [hl' _ hbl]; simp
        have hcnt := cnt_set hfal
        rw [← hcnt]
        obtain ⟨op, hop, hchk⟩ := hall _ o hso
        have hpre : ∀ e ∈ predsOf op, listed'.getD e false = true := by
          intro e hee
          have := hd.back _ op hop e hee
          rw [hlD']; simp [this]
        have hbready : k + tr.length ∈ Region.ready .any ops listed' := by
          rw [mem_ready]
          refine ⟨by rw [Array.getD_eq_getD_getElem?, hfal]; rfl, op, hop, fun e hee hb => hpre e.on ?_⟩
          simp only [predsOf, List.mem_map, List.mem_filter]
          exact ⟨e, ⟨by simpa using hee, hb⟩, rfl⟩
        refine ⟨fun hn => (by rw [hn] at hbready; cases hbready), fun i hi => ?_⟩
        have hieq : i = k + tr.length := by
          rw [mem_ready] at hi
          obtain ⟨hi0, oi, hoi, hprei⟩ := hi
          have hil : i < ops.size := (Array.getElem?_eq_some_iff.1 hoi).1
          rw [Array.getD_eq_getD_getElem?, hl' i hil] at hi0
          simp at hi0
          refine Classical.byContradiction fun hne => ?_
          have hsi : sops[i]? = some (sops[i]'(by rw [← hd.len]; exact hil)) := List.getElem?_eq_getElem _
          have : listed'.getD (k + tr.length) false = true := hd.cl (fun j => listed'.getD j false) (by
            intro j oj hoj hj e hee
            have hej := hd.back j oj hoj e hee
            have hj : listed'.getD j false = true := hj
            show listed'.getD e false = true
            rw [hlD'] at hj ⊢
            simp at hj ⊢
            omega) (k + tr.length) i o _ oi (by omega) hso hsi hoi (by simp [conf, h2]) (by
            intro e hee
            simp only [predsOf, List.mem_map, List.mem_filter] at hee
            obtain ⟨e', ⟨p1, p2⟩, rfl⟩ := hee
            exact hprei e' (by simpa using p1) p2)
          rw [hlD'] at this
          simp at this
        subst hieq
        refine guard_ok hop hchk hrep'' h3 fun G2 a2 w2 E2 H2 hr2 he2 hk2 => ?_
        refine ih (sops.length - (k + tr.length + 1)) ?_ (k + tr.length + 1) _ a2 w2 G2 E2 H2 rfl ?_ (by simpa using hsz') ?_ hr2 (he'.trans he2) ?_
        · rw [← hr]; rw [hd.len] at hbl; omega
        · rw [hd.len] at hbl; omega
        · intro j hj
          by_cases hje : j = k + tr.length
          · subst hje
            rw [Array.getElem?_setIfInBounds_self, if_pos (by omega)]
            simp
          · rw [Array.getElem?_setIfInBounds_ne (fun e => hje e.symm), hl' j hj]
            congr 1
            simp only [decide_eq_decide]
            omega
        · have : sops.drop (k + tr.length + 1) = os' := by
            have : sops.drop (k + tr.length + 1) = (sops.drop (k + tr.length)).drop 1 := by rw [List.drop_drop]
            rw [this, h1]; rfl
          rw [this]; exact hk2
    · intro j oj hoj hj e hee
      have hej := hd.back j oj hoj e hee
      rw [hlD] at hj ⊢
      simp at hj ⊢
      omega
    · have e1 : ∀ t, (envS tr k (fun j => listed.getD j false) E).get t = E.get t := by
        intro t
        have : (envS tr k (fun j => listed.getD j false) E).get t = (envS tr k (fun _ => false) E).get t := envS_agree (fun m u hm _ => by simp only [hlD]; simp) rfl
        rw [this]
        have gen : ∀ (tr : List Tr) (k : Nat) (E : Env), envS tr k (fun _ => false) E = E := by
          intro tr
          induction tr with
          | nil => intro k E; rfl
          | cons a tr ihh => intro k E; simp only [envS]; exact ihh _ _
        rw [gen]
      have e2 : heapS tr k (fun j => listed.getD j false) H = H := by
        have : heapS tr k (fun j => listed.getD j false) H = heapS tr k (fun _ => false) H := heapS_agree (fun m u hm _ => by simp only [hlD]; simp)
        rw [this]
        have gen : ∀ (tr : List Tr) (k : Nat) (E : AHeap), heapS tr k (fun _ => false) E = E := by
          intro tr
          induction tr with
          | nil => intro k E; rfl
          | cons a tr ihh => intro k E; simp only [heapS]; exact ihh _ _
        rw [gen]
      rw [e2]
      exact hrep.congr e1

theorem AWp.regionD {id : Nat} {E : Env} {H : AHeap} {Q : APost} (hm : P.follows .mixedOrders = true) (hc : chkAll P N ops ops.toList sops = true) (hdr : chkDraw ops.toList sops = true) (h : rgnD P [H] [] sops E H fun E' H' => Q .normal E' D H') : AWp P N (.region id ops true) Q E D H := by
  intro G a w hr
  refine wp_region_any hm ?_
  have hd := dctx hdr
  have hal := allOk_of (P := P) (N := N) (ops := ops) (l := ops.toList) 0 (fun j => by simp) hc
  have hall : ∀ (j : Nat) (so : SOper), sops[j]? = some so → ∃ o, ops[j]? = some o ∧ chkOper P N ops o so = true := by
    have gen : ∀ (n : Nat) (l : List Nat) (sl : List SOper) (k : Nat), l = List.range' k n → AllOk P N ops l sl → ∀ (j : Nat) (so : SOper), sl[j]? = some so → ∃ o, ops[k + j]? = some o ∧ chkOper P N ops o so = true := by
      intro n
      induction n with
      | zero =>
        intro l sl k hl ha j so hj
        simp at hl; subst hl
        cases sl with
        | nil => simp at hj
        | cons => exact ha.elim
      | succ n ihn =>
        intro l sl k hl ha j so hj
        rw [List.range'_succ] at hl; subst hl
        cases sl with
        | nil => simp at hj
        | cons s0 sl =>
          cases j with
          | zero => simp at hj; subst hj; exact ha.1
          | succ j =>
            have := ihn _ sl (k + 1) rfl ha.2 j so (by simpa using hj)
            rwa [show k + 1 + j = k + (j + 1) by omega] at this
    intro j so hj
    have := gen _ _ sops 0 rfl hal j so hj
    simpa using this
  obtain ⟨idr, edr⟩ := inv_drew hr.inv
  have hrep : Rep N G a w.drew E D H := ⟨idr, hr.size, hr.defs.ext edr, fun t x hx => (hr.env t x hx).ext edr⟩
  have := drawn_main (D := D) hall hd (Q := Q) (G0 := G) (w0 := w) _ 0 (Array.replicate ops.size false) a w.drew G E H rfl (Nat.zero_le _) (by simp) (fun j hj => by simp [hj]) hrep edr (by simpa using h)
  have hcnt : (Array.replicate ops.size false).toList.count false = ops.size := by simp
  rw [hcnt] at this
  exact this
end
end Go.Proofs.YtjgkfgocgknjjaaDoor.Abs
