/-
  ShardsNames, the chapter's examples, answers true: the tied card. Conditions: the package-level variables that the row lists hold what the program's text lays.
-/
import Derived.Test.YtjjojdnhpnfdfaaGreatDoorNamesRun
import Derived.Test.YtjjojdnhpnfdfaaGreatDoorCards
import Derived.Test.YtjjojdnhpnfdfaaGreatDoorTie
import Derived.ProofKit
import Derived.LaidMore
import Derived.OpenShut
import Derived.Stop.Joined
import Derived.SevenTiedAt
set_option linter.all false
namespace Go.Proofs.YtjjojdnhpnfdfaaGreatDoor
open Go.ChangeShapes Go.WideShapes Go.ChangeAt Go.RowKit Go.Ab

theorem own : ownKnob Tryz.prog.godebug = none := by kernel_rfl
theorem g32 : Tryz.prog.globalNamed "math/bits.deBruijn32tab" = some 1 := by kernel_rfl
theorem g64 : Tryz.prog.globalNamed "math/bits.deBruijn64tab" = some 5 := by kernel_rfl
theorem g10 : Tryz.prog.globalNamed "internal/strconv.uint64pow10" = some 4 := by kernel_rfl
theorem t32 : (Tryz.prog.globals[1]?).map (·.type) = some 307 := by kernel_rfl
theorem t64 : (Tryz.prog.globals[5]?).map (·.type) = some 332 := by kernel_rfl
theorem t10 : (Tryz.prog.globals[4]?).map (·.type) = some 325 := by kernel_rfl

theorem vars_len (e1 e2 e3 : TypeId) : (vars e1 e2 e3).length ≤ nG := by show 6 ≤ 64; decide
theorem vars_own (e1 e2 e3 : TypeId) : (vars e1 e2 e3).all (fun o => !o.own) = true := rfl

/-- The door's own heap meets the condition. -/
theorem door_met (os : Os) (args : Array Value) : laidMetH Tryz.prog Rows.shardsNamesRow.laid ((World.doorLaid Tryz.prog 62 os).forCall (fun _ _ => 0) ⟨#[], args, []⟩).memory :=
  laidMetH_of_parts3 (fuel := 8) (laidMet_of_run' 8 (by kernel_rfl) (by kernel_rfl)) (by kernel_rfl) (by kernel_rfl)

/-- What the condition gives the run: the three tables. -/
theorem of_laid {W : World} (h : laidMetH Tryz.prog Rows.shardsNamesRow.laid W) : ∃ e1 e2 e3, ∀ b o, (vars e1 e2 e3)[b]? = some o → objRel (phi0 W) W ⟨b, 0, sizeAt W b⟩ o := by
  rw [MakeChecks.laidMetH_plain _ _ _ (by kernel_rfl)] at h
  obtain ⟨ps, ⟨ga, ta, ca, fa, pa, qa, hga, hta, hva, hda, ⟨gb, tb, cb, fb, pb, qb, hgb, htb, hvb, hdb, ⟨gc, tc, cc, fc, pc, qc, hgc, htc, hvc, hdc, _, _⟩, _⟩, _⟩, _, _⟩ := h
  obtain rfl := Option.some.inj (g32.symm.trans hga)
  obtain rfl := Option.some.inj (g64.symm.trans hgb)
  obtain rfl := Option.some.inj (g10.symm.trans hgc)
  obtain rfl := Option.some.inj (t32.symm.trans hta)
  obtain rfl := Option.some.inj (t64.symm.trans htb)
  obtain rfl := Option.some.inj (t10.symm.trans htc)
  obtain ⟨e1, h1⟩ := gRow_ok (φ := phi0 W) (l := tab32) (n := 32) (e := 5) (k := .u8) hga (by kernel_rfl) (by kernel_rfl) (by kernel_rfl) (by kernel_rfl) (by kernel_rfl) hva hda
  obtain ⟨e3, h3⟩ := gRow_ok (φ := phi0 W) (l := tab64) (n := 64) (e := 5) (k := .u8) hgb (by kernel_rfl) (by kernel_rfl) (by kernel_rfl) (by kernel_rfl) (by kernel_rfl) hvb hdb
  obtain ⟨e2, h2⟩ := gRow_ok (φ := phi0 W) (l := pow10) (n := 20) (e := 31) (k := .u64) hgc (by kernel_rfl) (by kernel_rfl) (by kernel_rfl) (by kernel_rfl) (by kernel_rfl) hvc hdc
  refine ⟨e1, e2, e3, fun b o hb => ?_⟩
  match b with
  | 0 => cases hb; exact trivial
  | 1 => cases hb; exact h1
  | 2 => cases hb; exact trivial
  | 3 => cases hb; exact trivial
  | 4 => cases hb; exact h2
  | 5 => cases hb; exact h3
  | n + 6 => cases hb

set_option maxRecDepth 100000 in
theorem lifted (os : Os) (started : os.Started) (H : Type) (enc : TypeId × Value → H) :
    ReturnsInHanded {} Tryz.checked os 3 .any (fun w args => (Rows.shardsNamesSpec.pre enc Tryz.prog Tryz.f3 [] false w args ∧ laidMetH Tryz.prog Rows.shardsNamesRow.laid w) ∧ sizedMet enc Tryz.prog Tryz.f3 (OpenSpec.ofChange Rows.shardsNamesSpec) false w args)
      (Rows.shardsNamesSpec.post enc Tryz.prog Tryz.f3 false true false false) := by
  refine returnsInHanded_of_change_and (C := Tryz.checked) (X := fun w _ => laidMetH Tryz.prog Rows.shardsNamesRow.laid w) (fun _ _ _ hh h => h.of_heap hh) own started (by kernel_rfl) Tryz.func3
    (ChangeSpec.witness_shaped (enc := enc) (C := Tryz.checked) (os := os) (X := fun w _ => laidMetH Tryz.prog Rows.shardsNamesRow.laid w) false (World.doorLaid Tryz.prog 62 os) #[] 8 rfl (World.shaped_of_RefB (by kernel_rfl) (by kernel_rfl)) (by kernel_rfl) (by kernel_rfl) (by kernel_rfl) (door_met os _)) ?_
  intro W base args ds gs before hval0 hW _ _ hL _
  have hW' := hW
  obtain ⟨p, q, hA0, hV, rfl, hfz, hnd⟩ := hW
  have hA : DataW.TrodAll enc Tryz.prog W 0 (fun _ => true) true Tryz.f3.params.toList args.toList ds p := hA0
  rw [Tryz.params3] at hA
  obtain ⟨rfl, rfl, rfl⟩ := trodAll_none hA
  obtain ⟨rfl, rfl⟩ := trodVars_none hV
  clear hA0 hval0
  simp only [List.append_nil] at hW'
  obtain ⟨e1, e2, e3, hs⟩ := of_laid hL
  refine (calls_of_ans no_own orc_ok (vars_len e1 e2 e3) (vars_own e1 e2 e3) hs (run_ans e1 e2 e3)).mono fun e W' ⟨he, hb⟩ => ?_
  subst he
  exact ⟨_, rfl, Ab.post_of_below (pa := []) (pv := []) hW' (fun _ _ _ => (trodAll_cons_mk (shut_bool Tryz.underlying4 _) trodAll_mk0)) (fun sp _ => rfl) (fun _ _ => rfl) rfl
    hb (ok_one (by kernel_rfl) rfl (okWide_bool_mk Tryz.underlying4 _))⟩

theorem row_holds : Rows.ShardsNamesSaid :=
  OpenClaim.holds_of_wide 3 Tryz.f3 rfl rfl rfl rfl rfl rfl rfl ⟨rfl, rfl, rfl, rfl, rfl⟩ rfl rfl rfl rfl rfl (by kernel_rfl) Tryz.func3 (by kernel_rfl)
    (of_decide_eq_true (by kernel_rfl)) (by unfold Func.isWrapper; first | (rw [if_pos (by decide +kernel)]; kernel_rfl) | (rw [if_neg (by decide +kernel)]; exact ⟨rfl, rfl⟩))
    (fun os started H enc _ => lifted os started H enc)

theorem shardsNames_card : Rows.ShardsNamesCardSaid :=
  Claim7.holds_tied_plain_at .later [] [.data, .data, .data, .sentinel, .sentinel] true (true, "80ab439b8af872db750114b080f73a90df41608b8ac86dc96d5882713416434a") true
    row_holds (fun _ h => by cases h) (by kernel_rfl) (fun _ h => by cases h) shardsNames_row_tie rfl ⟨rfl, rfl⟩ (by kernel_rfl) rfl
    (fun f fn hf hfn => by
      obtain rfl : f = 3 := Option.some.inj ((show Tryz.prog.funcNamed "cloakroom/cloakroomlaw13.ShardsNames" = some 3 by kernel_rfl).symm.trans hf) |>.symm
      obtain rfl : fn = Tryz.f3 := (Option.some.inj (Tryz.func3.symm.trans hfn)).symm
      exact ⟨by kernel_rfl, fun j t ht => by
        rw [Tryz.params3] at ht
        simp at ht⟩)
    (by kernel_rfl)
#print axioms shardsNames_card
end Go.Proofs.YtjjojdnhpnfdfaaGreatDoor
