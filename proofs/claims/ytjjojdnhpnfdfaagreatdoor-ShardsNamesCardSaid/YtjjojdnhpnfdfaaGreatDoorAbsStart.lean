import Derived.Test.YtjjojdnhpnfdfaaGreatDoorAbsCode3
import Derived.FnData
import Derived.OpenShut
import Derived.ProofKit
import Derived.ChangeSame
import Derived.LaidMore
set_option linter.all false
/-
  FROM A START OF THE MODEL's TO THE ABSTRACT HEAP, AND BACK TO A ROW.
-/
namespace Go.Ab
open Go

/-- A package-level variable's cells, to be read alone. -/
def gRow (e : TypeId) (l : List AV) : AObj := .cells .leaf l l.length 1 false false e

/-- The abstract heap at a start: the package-level variables' blocks. -/
noncomputable def startW (gs : List AObj) : AW := { heap := Tr.ofList (gs ++ List.replicate (nG - gs.length) .dead), next := nG }

def sizeAt (w : World) (b : Nat) : Nat := match w.heap[b]? with
  | some (.cells arr _ _) => arr.size
  | _ => 0

def phi0 (w : World) : Phi := fun b => if b < nG then some ⟨b, 0, sizeAt w b⟩ else none

theorem startW_at {gs : List AObj} {b : Nat} (hl : gs.length ≤ nG) (hb : b < nG) : (startW gs).at b = some ((gs[b]?).getD .dead) := by
  show (Tr.ofList (gs ++ List.replicate (nG - gs.length) .dead)).get b = _
  rw [Tr.get_ofList]
  by_cases h : b < gs.length
  · rw [List.getElem?_append_left h, List.getElem?_eq_getElem h]; rfl
  · rw [List.getElem?_append_right (by omega), List.getElem?_eq_none (l := gs) (by omega), List.getElem?_replicate, if_pos (by omega)]; rfl

theorem start_sim {w : World} {gs : List AObj} (hl : gs.length ≤ nG) (h : ∀ b o, gs[b]? = some o → objRel (phi0 w) w ⟨b, 0, sizeAt w b⟩ o) : Sim (phi0 w) (startW gs) w where
  obj := fun b i hb => by
    unfold phi0 at hb
    split at hb
    · rename_i hlt
      cases hb
      refine ⟨hlt, _, startW_at hl hlt, ?_⟩
      cases hg : gs[b]? with
      | none => exact trivial
      | some o => exact h b o hg
    · cases hb
  inj := fun b b' i i' o o' hb hb' _ _ _ _ he => by
    unfold phi0 at hb hb'
    split at hb
    · split at hb'
      · cases hb; cases hb'; exact he
      · cases hb'
    · cases hb
  glob := fun g hg => ⟨⟨g, 0, sizeAt w g⟩, by unfold phi0; rw [if_pos hg], rfl, rfl⟩

open Go.RowKit in
/-- A start that owns nothing: whatever lay there lies there still. -/
theorem start_below {w w' : World} {gs : List AObj} {φ' : Phi} {W' : AW} (hl : gs.length ≤ nG) (ho : gs.all (fun o => !o.own) = true) (st : Step (phi0 w) (startW gs) w φ' W' w') : Below w.heap.size w w' := by
  refine ⟨st.os, st.tape, st.output, st.size, fun k hk => st.frame k hk ?_⟩
  rintro ⟨b, i, o, hb, _, hat, hown⟩
  unfold phi0 at hb
  split at hb
  · rename_i hlt
    rw [startW_at hl hlt] at hat
    cases hg : gs[b]? with
    | none => rw [hg] at hat; cases hat; cases hown
    | some o' =>
      rw [hg] at hat
      cases hat
      have := List.all_eq_true.1 ho o' (List.mem_of_getElem? hg)
      have hown : o'.own = true := hown
      rw [hown] at this; cases this
  · cases hb

/-- An array of whole numbers that is laid. -/
theorem gRow_ok {P : Program} {W : World} {name : String} {g t e n fuel : Nat} {k : IntKind} {l : List Int} {cs : Array Value} {p : List MemPlace} {φ : Phi} (hg : P.globalNamed name = some g) (hu : P.underlying t = some (.array n e))
    (he : P.underlying e = some (.int k)) (hc : P.cellsOf e = 1) (hct : P.cellsOf t = n) (hln : l.length = n) (hv : W.var? P name = some cs)
    (hd : DataW.trod (fun _ => ()) P W 0 (fun _ => true) false fuel t cs.toList = some (.agg (l.map fun x => .lit (.int k x)), p)) :
    ∃ el, objRel φ W ⟨g, 0, sizeAt W g⟩ (gRow el (l.map fun x => .lit (.int k x))) := by
  obtain ⟨xs, m, _, hx, hcl, hxl, hel⟩ := DataW.trod_array hu hd
  rw [hct] at hcl
  simp only [Prod.mk.injEq, DataW.agg.injEq] at hx
  have hcell : ∃ el fr, W.heap[g]? = some (.cells cs el fr) := by
    simp only [World.var?, hg, Option.bind_some] at hv
    split at hv
    · rename_i c el fr hh
      cases hv
      exact ⟨el, fr, hh⟩
    · cases hv
  obtain ⟨el, fr, hh⟩ := hcell
  have hsz : sizeAt W g = cs.size := by unfold sizeAt; rw [hh]
  refine ⟨el, cs, fr.1, fr.2, hh, hsz.symm, ?_, (fun h => by cases h), (fun h => by cases h), ?_⟩
  · show 0 + (l.map _).length ≤ sizeAt W g
    rw [hsz, List.length_map, hln]
    have : cs.toList.length = cs.size := by simp
    omega
  · intro i v hi hat
    rw [List.length_map] at hi
    rw [Cells.at_eq] at hat
    simp only [Tr.get_leaf, List.length_map] at hat
    rw [Nat.mod_eq_of_lt hi, List.getElem?_map, List.getElem?_eq_getElem hi] at hat
    simp only [Option.map_some, Option.some.injEq] at hat
    subst hat
    have h1 := hel i (by omega)
    rw [hc, Nat.mul_one] at h1
    have hix : i < xs.length := by omega
    rw [List.getElem?_eq_getElem hix] at h1
    obtain ⟨q, h2, h3, _⟩ := DataW.trod_int he h1
    refine ⟨.int k q, ?_, ?_⟩
    · have h4 : cs.toList[i]? = some (.int k q) := by
        have := congrArg (fun l => l[0]?) h2
        simpa using this
      simpa using h4
    · show _ = _
      have h5 : (l.map fun x => (DataW.lit (.int k x) : DataW Unit))[i]? = (xs.map (·.1))[i]? := by rw [hx.1]
      rw [List.getElem?_map, List.getElem?_map, List.getElem?_eq_getElem hi, List.getElem?_eq_getElem hix, h3] at h5
      simp only [Option.map_some, Option.some.injEq, DataW.lit.injEq, Lit.int.injEq] at h5
      rw [h5.2]

def isTrue : Option (AV × AW) → Bool
  | some (.lit (.bool true), _) => true
  | _ => false
theorem isTrue_some {r : Option (AV × AW)} (h : isTrue r = true) : ∃ W, r = some (.lit (.bool true), W) := by
  unfold isTrue at h
  split at h
  · exact ⟨_, rfl⟩
  · cases h

/-- No function with a body bears the name of the machine's own. -/
theorem plain_of {P : Program} (h : P.funcs.toList.all (fun fn => !fn.body.isSome || decide (fn.name ≠ "runtime.NumGoroutine")) = true) : Plain P := by
  intro f fn hf hb
  have := List.all_eq_true.1 h fn (by
    have : P.funcs.toList[f]? = some fn := by rw [Array.getElem?_toList]; exact hf
    exact List.mem_of_getElem? this)
  rw [hb] at this
  simpa using this

open Go.RowKit in
/-- A law of no input that the abstract run answers 'true'. -/
theorem calls_of_ans {P : Program} {O : Orc} {n : Nat} {f : FuncId} {gs : List AObj} {w : World} (hp : Plain P) (ho : OrcOk P O) (hl : gs.length ≤ nG) (hown : gs.all (fun o => !o.own) = true)
    (hs : ∀ b o, gs[b]? = some o → objRel (phi0 w) w ⟨b, 0, sizeAt w b⟩ o) (ha : isTrue (callN P O n f [] (startW gs)) = true) :
    Calls P f #[] w fun e w' => e = .returned (.bool true) ∧ Below w.heap.size w w' := by
  obtain ⟨W', h⟩ := isTrue_some ha
  refine callsIn_wide.1 (CallsIn.mono (callN_sound hp ho n f [] (startW gs) _ _ h (phi0 w) w #[] (start_sim hl hs) trivial) ?_)
  rintro e w' ⟨v, rfl, φ', _, st, hv⟩
  have hv : v = .bool true := hv
  exact ⟨by rw [hv], start_below hl hown st⟩

section
open Go.RowKit Go.WideShapes Go.ChangeShapes
variable {H : Type} {enc : TypeId × Value → H} {P : Program}
/-- The row's last step where all that was there lies there still. -/
theorem post_of_below {f : Func} {s : ChangeSpec} {apart fresh handsOn again : Bool} {W W' : World} {args : Array Value} {v : Value} {ds gs : List (DataW H)} {before pa pv : List MemPlace}
    (hW : DataW.Whole enc P f.params.toList s.vars apart W args.toList ds gs before)
    (hres : ∀ (b : Nat) (sp : Nat → Bool) (hd : Bool), DataW.TrodAll enc P W' b sp hd f.resultTypes.toList (v.resultList f.resultTypes.size) (s.fn H (ds ++ gs)).results [])
    (hargs : ∀ sp : Nat → Bool, (∀ p ∈ before, sp p.block = true) → DataW.TrodAll enc P W' 0 sp true f.params.toList args.toList (s.fn H (ds ++ gs)).args pa)
    (hvars : ∀ sp : Nat → Bool, (∀ p ∈ before, sp p.block = true) → DataW.TrodVars enc P W' sp s.vars (s.fn H (ds ++ gs)).vars pv)
    (hps : before = pa ++ pv) (hb : Below W.heap.size W W')
    (hok : ∀ (j : Nat) (t : TypeId) (r : Value), f.resultTypes[j]? = some t → (v.resultList f.resultTypes.size)[j]? = some r → Value.okWide P W' .any 0 t r) :
    s.post enc P f apart fresh handsOn again W args v W' := by
  have hlt : ∀ p ∈ before, p.block < W.heap.size := fun p hp => hW.lt p hp
  have hold : ∀ p ∈ before, (fun b => decide (b < W.heap.size)) p.block = true := fun p hp => by simpa using hlt p hp
  refine ⟨ds, gs, before, [], pa, pv, hW, hres _ _ _, hargs _ hold, hvars _ hold, World.keptBut_mono (fun p hp => ⟨hp, ?_⟩) (hb.frame (· ∈ before)), fun _ => ?_⟩
  · rw [hps, List.mem_append] at hp
    exact Or.inr hp
  · obtain ⟨_, _, _, _, _, hz, hn⟩ := hW
    refine ⟨hok, _, _, ([] ++ pa) ++ pv, ⟨[] ++ pa, pv, trodAll_append (hargs _ (fun _ _ => rfl)) (hres _ _ _), hvars _ (fun _ _ => rfl), rfl, ?_, ?_⟩, ?_⟩
    · intro b off hp
      have hin : MemPlace.cell b off ∈ before := by rw [hps]; simpa using hp
      rw [hb.frozen (hlt _ hin)]
      exact hz b off hin
    · intro ha
      have := hn ha
      rw [hps] at this
      simpa using this
    · intro p hp _
      rw [hps]
      simpa using hp
end
end Go.Ab
