/- The Go function StmtErased of the package ladderbacklaw28 returns true for every program, unit and list of statements, does not panic, and changes nothing that it was handed; no condition but what the program's own tables read as, which is tied to the program's text. -/
import Derived.Test.YtjgkfgocgknjjaaDoorV1
import Derived.Test.YtjgkfgocgknjjaaDoorF3
import Derived.Test.YtjgkfgocgknjjaaDoorRows
import Derived.Test.YtjgkfgocgknjjaaDoorTie
import Derived.Test.YtjgkfgocgknjjaaDoorCards
import Derived.WalkKit
import Derived.ProofKit
import Derived.OpenShut
import Derived.ShutString
import Derived.ChangeOld
import Derived.Below
import Derived.SizedLaws
import Derived.LaidMore
import Derived.SevenTiedAt
import Derived.MakeChecks
set_option linter.unusedVariables false
namespace Go.Proofs.YtjgkfgocgknjjaaDoor.stmtErased
open Go Go.ChangeShapes Go.WideShapes Go.ChangeAt Go.RowKit Go.Proofs.YtjgkfgocgknjjaaDoor.Abs
theorem own : ownKnob Tryd.prog.godebug = none := by kernel_rfl
theorem laidOut : laidOutB Tryd.prog = true := by kernel_rfl
theorem plain : plainS Tryd.prog [33, 36, 28, 29, 30, 31, 127, 60, 62, 66, 129, 64, 9, 3, 45, 43, 53, 46, 55, 47, 49, 22] = true := by kernel_rfl
def laidL : List (String × DataW Unit) := [("ladderback/alu.goes", Rows.laid_ladderback_alu_goes), ("ladderback/block.rows", Rows.laid_ladderback_block_rows)]
/-- The door's own heap meets the condition: three closed facts. -/
theorem door_met (os : Os) (args : Array Value) : laidMetH Tryd.prog laidL ((World.doorLaid Tryd.prog 400 os).forCall (fun _ _ => 0) ⟨#[], args, []⟩).memory :=
  laidMetH_of_parts3 (fuel := 12) (laidMet_of_run' 12 (by kernel_rfl) (by kernel_rfl)) (by kernel_rfl) (by kernel_rfl)
theorem flat : flatS Tryd.prog [110, 102, 109, 101, 104, 3, 9] = true := by kernel_rfl
theorem gn0 : Tryd.prog.globalNamed "ladderback/alu.goes" = some 1 := by kernel_rfl
theorem gt0 : (Tryd.prog.globals[1]?).map (·.type) = some 110 := by kernel_rfl
theorem gc0 : flatA (Rows.laid_ladderback_alu_goes (H := Unit)) = gcells1 := by kernel_rfl
theorem gn1 : Tryd.prog.globalNamed "ladderback/block.rows" = some 0 := by kernel_rfl
theorem gt1 : (Tryd.prog.globals[0]?).map (·.type) = some 109 := by kernel_rfl
theorem gc1 : flatA (Rows.laid_ladderback_block_rows (H := Unit)) = gcells0 := by kernel_rfl
/-- What the condition gives the walks. -/
theorem of_laid {W : World} (h : laidMetH Tryd.prog laidL W) : ∀ n cells, gtab n = some cells → R (ghost0 W) W (.pointer (some ⟨n, 0, none⟩)) (.rptr cells 0) := by
  rw [MakeChecks.laidMetH_plain _ _ _ (by kernel_rfl)] at h
  obtain ⟨ps, ⟨g0, t0, cs0, f0, p0, q0, hg0, ht0, hv0, hd0, ⟨g1, t1, cs1, f1, p1, q1, hg1, ht1, hv1, hd1, _, _⟩, _⟩, _, _⟩ := h
  obtain rfl := Option.some.inj (gn0.symm.trans hg0)
  obtain rfl := Option.some.inj (gt0.symm.trans ht0)
  have r0 := laid_ptr flat hg0 hv0 (by decide) hd0
  rw [gc0] at r0
  obtain rfl := Option.some.inj (gn1.symm.trans hg1)
  obtain rfl := Option.some.inj (gt1.symm.trans ht1)
  have r1 := laid_ptr flat hg1 hv1 (by decide) hd1
  rw [gc1] at r1
  intro n cells hn
  match n, hn with
  | 0, hn => cases hn; exact r1
  | 1, hn => cases hn; exact r0
set_option maxRecDepth 100000 in
theorem lifted (os : Os) (started : os.Started) (H : Type) (enc : TypeId × Value → H) :
    ReturnsInHanded {} Tryd.checked os 4 .any (fun w args => (Rows.stmtErasedSpec.pre enc Tryd.prog Tryd.f4 [] false w args ∧ laidMetH Tryd.prog laidL w) ∧ sizedMet enc Tryd.prog Tryd.f4 (OpenSpec.ofChange Rows.stmtErasedSpec) false w args)
      (Rows.stmtErasedSpec.post enc Tryd.prog Tryd.f4 false true false false) := by
  refine returnsInHanded_of_change_and (C := Tryd.checked) (X := fun w _ => laidMetH Tryd.prog laidL w) (fun _ _ _ hh h => h.of_heap hh) own started (by kernel_rfl) Tryd.func4
    (ChangeSpec.witness_shaped (enc := enc) (C := Tryd.checked) (os := os) (X := fun w _ => laidMetH Tryd.prog laidL w) false (World.doorLaid Tryd.prog 400 os) #[.agg #[.slice none 0 0, .slice none 0 0, .slice none 0 0, .slice none 0 0], .int .i64 0, .slice none 0 0] 12 rfl (World.shaped_of_RefB (by kernel_rfl) (by kernel_rfl)) (by kernel_rfl) (by kernel_rfl) (by kernel_rfl) (door_met os _)) ?_
  intro W base args ds gs before hval0 hW hcnd _ hL _
  have hval : ∀ (j : Nat) t v, Tryd.f4.params[j]? = some t → args[j]? = some v → Value.okWide Tryd.prog W .any base t v := hval0
  have hW' := hW
  obtain ⟨p, q, hA0, hV, rfl, hfz, hnd⟩ := hW
  have hA : DataW.TrodAll enc Tryd.prog W 0 (fun _ => true) true Tryd.f4.params.toList args.toList ds p := hA0
  rw [Tryd.params4] at hA hval
  obtain ⟨v0, vs0, d0, ds0, p0, q0, hargs, rfl, rfl, h0, r0⟩ := trodAll_cons hA
  obtain ⟨v1, vs1, d1, ds1, p1, q1, rfl, rfl, rfl, h1, r1⟩ := trodAll_cons r0
  obtain ⟨v2, vs2, d2, ds2, p2, q2, rfl, rfl, rfl, h2, r2⟩ := trodAll_cons r1
  obtain ⟨rfl, rfl, rfl⟩ := trodAll_nil r2
  obtain rfl : args = #[v0, v1, v2] := by cases args; simp_all
  obtain ⟨rfl, rfl⟩ := trodVars_none hV
  obtain ⟨cs0, rfl, _⟩ := okWide_struct Tryd.underlying33 (hval 0 33 v0 rfl rfl)
  have k0 := h0
  have lt0 : ∀ x ∈ p0, x.block < W.heap.size := by obtain ⟨m, hm⟩ := k0; exact DataW.trod_lt m _ _ _ hm
  obtain ⟨fuel0, hf0⟩ := h0
  obtain ⟨xs0, hR0, hF0, hs0⟩ := open_trod plain fuel0 33 _ _ _ (by decide) hf0
  obtain ⟨p, rfl⟩ := fit_pg hF0
  have hR0 : RL (ghost0 W) W cs0.toList _ := hR0
  have hr0 : R (ghost0 W) W (.agg cs0) (.agg p.cells) := .agg cs0 _ (by simpa using hR0.1) hs0 (fun j v x hv hx => hR0.2 j v x (by simpa using hv) hx)
  obtain ⟨n1, rfl⟩ := okWide_int Tryd.underlying3 (hval 1 3 v1 rfl rfl)
  have k1 := h1
  have lt1 : ∀ x ∈ p1, x.block < W.heap.size := by obtain ⟨m, hm⟩ := k1; exact DataW.trod_lt m _ _ _ hm
  obtain ⟨fuel1, hf1⟩ := h1
  obtain ⟨xs1, hR1, hF1, hs1⟩ := open_trod plain fuel1 3 _ _ _ (by decide) hf1
  obtain ⟨u, rfl, _⟩ := fit_int u_int hF1
  have hr1 := hR1.2 0 _ _ rfl rfl
  obtain ⟨a2, len2, cap2, rfl⟩ := okWide_slice Tryd.underlying22 (hval 2 22 v2 rfl rfl)
  have k2 := h2
  have lt2 : ∀ x ∈ p2, x.block < W.heap.size := by obtain ⟨m, hm⟩ := k2; exact DataW.trod_lt m _ _ _ hm
  obtain ⟨fuel2, hf2⟩ := h2
  obtain ⟨xs2, hR2, hF2, hs2⟩ := open_trod plain fuel2 22 _ _ _ (by decide) hf2
  obtain ⟨l, rfl, hl⟩ := fit_stmts hF2
  have hr2 := hR2.2 0 _ _ rfl rfl
  refine ((erased_law p u l hl) [] (ghost0 W) W #[.agg cs0, .int .i64 n1, .slice a2 len2 cap2] (inv0 W (of_laid hL)) (RL.cons hr0 (RL.cons hr1 (RL.cons hr2 (RL.nil _ _))))).mono fun e W' ⟨G', v, x, H', he, hi, hext, hr, hx, _⟩ => ?_
  subst hx
  subst he
  cases hr
  have bel : Below W.heap.size W W' := hext.below
  exact ⟨_, rfl, _, _, _, [], _, [], hW', trodAll_mk1 (shut_bool Tryd.underlying4 _), (trodAll_cons_mk (Below.trod laidOut (by kernel_rfl) (of_decide_eq_true (by kernel_rfl)) k0 bel lt0) (trodAll_cons_mk (Below.trod laidOut (by kernel_rfl) (of_decide_eq_true (by kernel_rfl)) k1 bel lt1) (trodAll_cons_mk (Below.trod laidOut (by kernel_rfl) (of_decide_eq_true (by kernel_rfl)) k2 bel lt2) trodAll_mk0))), rfl, bel.frame _, fun h => by cases h⟩
theorem over : Rows.stmtErasedRow.holds Tryd.pinned (OpenSpec.ofChange Rows.stmtErasedSpec) :=
  OpenClaim.holds_of_wide 4 Tryd.f4 rfl rfl rfl rfl rfl rfl rfl ⟨rfl, rfl, rfl, rfl, rfl⟩ rfl rfl rfl rfl rfl (by kernel_rfl) Tryd.func4 (by kernel_rfl)
    (of_decide_eq_true (by kernel_rfl)) (by unfold Func.isWrapper; first | (rw [if_pos (by decide +kernel)]; kernel_rfl) | (rw [if_neg (by decide +kernel)]; exact ⟨rfl, rfl⟩))
    (fun os started H enc _ => lifted os started H enc)
theorem proved : Rows.StmtErasedSaid := over
theorem card_holds : Rows.StmtErasedCardSaid :=
  Claim7.holds_tied_plain_at .later [] [.data, .data] true (true, "c67860316b06dacb140093def9dcb8f132fa6631bc489d4ea9b9822bbd9fedcb") false
    proved (fun _ h => by cases h) (by kernel_rfl) (fun _ h => by cases h) stmtErased_row_tie rfl ⟨rfl, rfl⟩ (by kernel_rfl) rfl
    (fun f fn hf hfn => by
      obtain rfl : f = 4 := Option.some.inj ((show Tryd.prog.funcNamed "ladderback/ladderbacklaw28.StmtErased" = some 4 by kernel_rfl).symm.trans hf) |>.symm
      obtain rfl : fn = Tryd.f4 := (Option.some.inj (Tryd.func4.symm.trans hfn)).symm
      exact ⟨by kernel_rfl, fun j t ht => by
        rw [Tryd.params4] at ht
        have hm : t ∈ [33, 3, 22] := by simpa using Array.mem_of_getElem? ht
        have hall : ([33, 3, 22].all fun u => !Tryd.prog.wantsStandIn u) = true := by kernel_rfl
        exact (show Tryd.prog.wantsStandIn t = false by simpa using List.all_eq_true.1 hall t hm)⟩)
    (by kernel_rfl)
end Go.Proofs.YtjgkfgocgknjjaaDoor.stmtErased
namespace Go.Proofs.YtjgkfgocgknjjaaDoor
/-- The law, under a short name. -/
theorem stmtErased_holds : Rows.StmtErasedCardSaid := stmtErased.card_holds
end Go.Proofs.YtjgkfgocgknjjaaDoor
