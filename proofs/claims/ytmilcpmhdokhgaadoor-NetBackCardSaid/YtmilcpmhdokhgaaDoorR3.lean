/- The Go function NetBack of the package ladderbacklaw44 returns true for every case and every network, does not panic, and changes nothing that it was handed; no condition but what the program's own tables read as, which is tied to the program's text. -/
import Derived.Test.YtmilcpmhdokhgaaDoorT6
import Derived.Test.YtmilcpmhdokhgaaDoorF2
import Derived.Test.YtmilcpmhdokhgaaDoorRows
import Derived.Test.YtmilcpmhdokhgaaDoorTie
import Derived.Test.YtmilcpmhdokhgaaDoorCards
import Derived.WalkKit
import Derived.ProofKit
import Derived.OpenShut
import Derived.ShutString
import Derived.ChangeOld
import Derived.Below
import Derived.SizedLaws
import Derived.LaidMore
import Derived.SevenTiedAt
import Derived.MakeChecks
set_option linter.unusedVariables false
namespace Go.Proofs.YtmilcpmhdokhgaaDoor.netBack
open Go Go.ChangeShapes Go.WideShapes Go.ChangeAt Go.RowKit Go.Proofs.YtmilcpmhdokhgaaDoor.Abs
theorem own : ownKnob Tryd.prog.godebug = none := by kernel_rfl
theorem laidOut : laidOutB Tryd.prog = true := by kernel_rfl
theorem plain : plainS Tryd.prog [34, 27, 31, 32, 28, 22, 23, 24, 25, 29, 125, 85, 87, 72, 128, 126, 130, 70, 9, 3, 37, 35, 54, 52] = true := by kernel_rfl
def laidL : List (String × DataW Unit) := [("ladderback/alu.goes", Rows.laid_ladderback_alu_goes), ("ladderback/block.rows", Rows.laid_ladderback_block_rows)]
/-- The door's own heap meets the condition: three closed facts. -/
theorem door_met (os : Os) (args : Array Value) : laidMetH Tryd.prog laidL ((World.doorLaid Tryd.prog 400 os).forCall (fun _ _ => 0) ⟨#[], args, []⟩).memory :=
  laidMetH_of_parts3 (fuel := 12) (laidMet_of_run' 12 (by kernel_rfl) (by kernel_rfl)) (by kernel_rfl) (by kernel_rfl)
theorem flat : flatS Tryd.prog [109, 101, 108, 100, 103, 3, 9] = true := by kernel_rfl
theorem gn0 : Tryd.prog.globalNamed "ladderback/alu.goes" = some 1 := by kernel_rfl
theorem gt0 : (Tryd.prog.globals[1]?).map (·.type) = some 109 := by kernel_rfl
theorem gc0 : flatA (Rows.laid_ladderback_alu_goes (H := Unit)) = gcells1 := by kernel_rfl
theorem gn1 : Tryd.prog.globalNamed "ladderback/block.rows" = some 0 := by kernel_rfl
theorem gt1 : (Tryd.prog.globals[0]?).map (·.type) = some 108 := by kernel_rfl
theorem gc1 : flatA (Rows.laid_ladderback_block_rows (H := Unit)) = gcells0 := by kernel_rfl
/-- What the condition gives the walks. -/
theorem of_laid {W : World} (h : laidMetH Tryd.prog laidL W) : ∀ n cells, gtab n = some cells → R (ghost0 W) W (.pointer (some ⟨n, 0, none⟩)) (.rptr cells 0) := by
  rw [MakeChecks.laidMetH_plain _ _ _ (by kernel_rfl)] at h
  obtain ⟨ps, ⟨g0, t0, cs0, f0, p0, q0, hg0, ht0, hv0, hd0, ⟨g1, t1, cs1, f1, p1, q1, hg1, ht1, hv1, hd1, _, _⟩, _⟩, _, _⟩ := h
  obtain rfl := Option.some.inj (gn0.symm.trans hg0)
  obtain rfl := Option.some.inj (gt0.symm.trans ht0)
  have r0 := laid_ptr flat hg0 hv0 (by decide) hd0
  rw [gc0] at r0
  obtain rfl := Option.some.inj (gn1.symm.trans hg1)
  obtain rfl := Option.some.inj (gt1.symm.trans ht1)
  have r1 := laid_ptr flat hg1 hv1 (by decide) hd1
  rw [gc1] at r1
  intro n cells hn
  match n, hn with
  | 0, hn => cases hn; exact r1
  | 1, hn => cases hn; exact r0
set_option maxRecDepth 100000 in
theorem lifted (os : Os) (started : os.Started) (H : Type) (enc : TypeId × Value → H) :
    ReturnsInHanded {} Tryd.checked os 5 .any (fun w args => (Rows.netBackSpec.pre enc Tryd.prog Tryd.f5 [] false w args ∧ laidMetH Tryd.prog laidL w) ∧ sizedMet enc Tryd.prog Tryd.f5 (OpenSpec.ofChange Rows.netBackSpec) false w args)
      (Rows.netBackSpec.post enc Tryd.prog Tryd.f5 false true false false) := by
  refine returnsInHanded_of_change_and (C := Tryd.checked) (X := fun w _ => laidMetH Tryd.prog laidL w) (fun _ _ _ hh h => h.of_heap hh) own started (by kernel_rfl) Tryd.func5
    (ChangeSpec.witness_shaped (enc := enc) (C := Tryd.checked) (os := os) (X := fun w _ => laidMetH Tryd.prog laidL w) false (World.doorLaid Tryd.prog 400 os) #[.agg #[.slice none 0 0, .slice none 0 0, .slice none 0 0, .slice none 0 0, .int .i64 0, .slice none 0 0, .slice none 0 0, .int .i64 0, .int .i64 0, .slice none 0 0], .agg #[.int .i64 0, .int .i64 0, .int .i64 0, .int .i64 0, .int .i64 0, .int .i64 0, .slice none 0 0, .slice none 0 0]] 12 rfl (World.shaped_of_RefB (by kernel_rfl) (by kernel_rfl)) (by kernel_rfl) (by kernel_rfl) (by kernel_rfl) (door_met os _)) ?_
  intro W base args ds gs before hval0 hW hcnd _ hL _
  have hval : ∀ (j : Nat) t v, Tryd.f5.params[j]? = some t → args[j]? = some v → Value.okWide Tryd.prog W .any base t v := hval0
  have hW' := hW
  obtain ⟨p, q, hA0, hV, rfl, hfz, hnd⟩ := hW
  have hA : DataW.TrodAll enc Tryd.prog W 0 (fun _ => true) true Tryd.f5.params.toList args.toList ds p := hA0
  rw [Tryd.params5] at hA hval
  obtain ⟨v0, vs0, d0, ds0, p0, q0, hargs, rfl, rfl, h0, r0⟩ := trodAll_cons hA
  obtain ⟨v1, vs1, d1, ds1, p1, q1, rfl, rfl, rfl, h1, r1⟩ := trodAll_cons r0
  obtain ⟨rfl, rfl, rfl⟩ := trodAll_nil r1
  obtain rfl : args = #[v0, v1] := by cases args; simp_all
  obtain ⟨rfl, rfl⟩ := trodVars_none hV
  obtain ⟨cs0, rfl, _⟩ := okWide_struct Tryd.underlying34 (hval 0 34 v0 rfl rfl)
  have k0 := h0
  have lt0 : ∀ x ∈ p0, x.block < W.heap.size := by obtain ⟨m, hm⟩ := k0; exact DataW.trod_lt m _ _ _ hm
  obtain ⟨fuel0, hf0⟩ := h0
  obtain ⟨xs0, hR0, hF0, hs0⟩ := open_trod plain fuel0 34 _ _ _ (by decide) hf0
  obtain ⟨c, rfl⟩ := fit_case hF0
  have hR0 : RL (ghost0 W) W cs0.toList _ := hR0
  have hr0 : R (ghost0 W) W (.agg cs0) (.agg c.cells) := .agg cs0 _ (by simpa using hR0.1) hs0 (fun j v x hv hx => hR0.2 j v x (by simpa using hv) hx)
  obtain ⟨cs1, rfl, _⟩ := okWide_struct Tryd.underlying54 (hval 1 54 v1 rfl rfl)
  have k1 := h1
  have lt1 : ∀ x ∈ p1, x.block < W.heap.size := by obtain ⟨m, hm⟩ := k1; exact DataW.trod_lt m _ _ _ hm
  obtain ⟨fuel1, hf1⟩ := h1
  obtain ⟨xs1, hR1, hF1, hs1⟩ := open_trod plain fuel1 54 _ _ _ (by decide) hf1
  obtain ⟨a, rfl, ha⟩ := fit_net _ _ hF1
  have hR1 : RL (ghost0 W) W cs1.toList _ := hR1
  have hr1 : R (ghost0 W) W (.agg cs1) (.agg a.cells) := .agg cs1 _ (by simpa using hR1.1) hs1 (fun j v x hv hx => hR1.2 j v x (by simpa using hv) hx)
  refine ((netBack_law c a ha) [] (ghost0 W) W #[.agg cs0, .agg cs1] (inv0 W (of_laid hL)) (RL.cons hr0 (RL.cons hr1 (RL.nil _ _)))).mono fun e W' ⟨G', v, x, H', he, hi, hext, hr, hx, _⟩ => ?_
  subst hx
  subst he
  cases hr
  have bel : Below W.heap.size W W' := hext.below
  exact ⟨_, rfl, _, _, _, [], _, [], hW', trodAll_mk1 (shut_bool Tryd.underlying4 _), (trodAll_cons_mk (Below.trod laidOut (by kernel_rfl) (of_decide_eq_true (by kernel_rfl)) k0 bel lt0) (trodAll_cons_mk (Below.trod laidOut (by kernel_rfl) (of_decide_eq_true (by kernel_rfl)) k1 bel lt1) trodAll_mk0)), rfl, bel.frame _, fun h => by cases h⟩
theorem over : Rows.netBackRow.holds Tryd.pinned (OpenSpec.ofChange Rows.netBackSpec) :=
  OpenClaim.holds_of_wide 5 Tryd.f5 rfl rfl rfl rfl rfl rfl rfl ⟨rfl, rfl, rfl, rfl, rfl⟩ rfl rfl rfl rfl rfl (by kernel_rfl) Tryd.func5 (by kernel_rfl)
    (of_decide_eq_true (by kernel_rfl)) (by unfold Func.isWrapper; first | (rw [if_pos (by decide +kernel)]; kernel_rfl) | (rw [if_neg (by decide +kernel)]; exact ⟨rfl, rfl⟩))
    (fun os started H enc _ => lifted os started H enc)
theorem proved : Rows.NetBackSaid := over
theorem card_holds : Rows.NetBackCardSaid :=
  Claim7.holds_tied_plain_at .later [] [.data, .data] true (true, "0f5dbce4aac2f8d4c55ffc6cdd4d7d9e2483b959477cc9701e95346b5bb2f48f") false
    proved (fun _ h => by cases h) (by kernel_rfl) (fun _ h => by cases h) netBack_row_tie rfl ⟨rfl, rfl⟩ (by kernel_rfl) rfl
    (fun f fn hf hfn => by
      obtain rfl : f = 5 := Option.some.inj ((show Tryd.prog.funcNamed "ladderback/ladderbacklaw44.NetBack" = some 5 by kernel_rfl).symm.trans hf) |>.symm
      obtain rfl : fn = Tryd.f5 := (Option.some.inj (Tryd.func5.symm.trans hfn)).symm
      exact ⟨by kernel_rfl, fun j t ht => by
        rw [Tryd.params5] at ht
        have hm : t ∈ [34, 54] := by simpa using Array.mem_of_getElem? ht
        have hall : ([34, 54].all fun u => !Tryd.prog.wantsStandIn u) = true := by kernel_rfl
        exact (show Tryd.prog.wantsStandIn t = false by simpa using List.all_eq_true.1 hall t hm)⟩)
    (by kernel_rfl)
end Go.Proofs.YtmilcpmhdokhgaaDoor.netBack
namespace Go.Proofs.YtmilcpmhdokhgaaDoor
/-- The law, under a short name. -/
theorem netBack_holds : Rows.NetBackCardSaid := netBack.card_holds
end Go.Proofs.YtmilcpmhdokhgaaDoor
