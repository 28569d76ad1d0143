import Derived.Test.YtjjojdnhpnfdfaaGreatDoorAbsAppend
set_option linter.all false
/-
  ONE OPERATION, BY ITS CLASS.
-/
namespace Go.Ab
open Go

/-- The fences in question: every function, every depth; in a round of a range over a function or in none. -/
def Fc (l : Option Nat) : Fence := { Fence.wide with round := l }

section
variable {P : Program} {φ : Phi} {W W' : AW} {w : World} {e : Env} {tm : Tm} {a : Act} {o : Oper}

theorem evL_rel (s : Sim φ W w) (ht : tmRel φ tm a.tmps) (l : Array Operand) : relL φ (evL tm l) (l.map a.eval).toList := by
  rw [Array.toList_map]
  exact relL_map (φ := φ) (aEval tm) a.eval l.toList (fun x _ => eval_rel s ht x)

theorem first_of {x : AV} {r : List AV} {vs : Array Value} (h : relL φ (x :: r) vs.toList) : ∃ v, vs[0]? = some v ∧ x.rel φ v := by
  obtain ⟨v, h1, h2⟩ := relL_get h (k := 0) rfl
  exact ⟨v, by simpa using h1, h2⟩
theorem second_of {x y : AV} {r : List AV} {vs : Array Value} (h : relL φ (x :: y :: r) vs.toList) : ∃ v, vs[1]? = some v ∧ y.rel φ v := by
  obtain ⟨v, h1, h2⟩ := relL_get h (k := 1) rfl
  exact ⟨v, by simpa using h1, h2⟩
theorem types_first {t : TypeId} {r : List TypeId} {ts : Array TypeId} (h : ts.toList = t :: r) : ts[0]? = some t := by
  rw [← Array.getElem?_toList, h]; rfl
theorem types_second {t u : TypeId} {r : List TypeId} {ts : Array TypeId} (h : ts.toList = t :: u :: r) : ts[1]? = some u := by
  rw [← Array.getElem?_toList, h]; rfl

theorem run_v {s : Sem Value} {v : Value} {w' : World} (h : s.run P w = .ok v w') : (do pure (.value (← s)) : Sem Next).run P w = .ok (.value v) w' := by simp [h]
theorem run_u {s : Sem Unit} {w' : World} (h : s.run P w = .ok () w') : (do s; pure .skip : Sem Next).run P w = .ok .skip w' := by simp [h]

theorem parts_ok (s : Sim φ W w) (ht : tmRel φ tm a.tmps) (parts : Array (Nat × Operand)) :
    (parts.map fun (x : Nat × Operand) => (x.1, a.eval x.2)).toList.map (·.1) = (partsOf (aEval tm) parts.toList).map (·.1) ∧
      relL φ ((partsOf (aEval tm) parts.toList).map (·.2)) ((parts.map fun (x : Nat × Operand) => (x.1, a.eval x.2)).toList.map (·.2)) := by
  rw [Array.toList_map]
  refine ⟨by simp [partsOf], ?_⟩
  simp only [partsOf, List.map_map]
  exact relL_map (φ := φ) (fun p => aEval tm p.2) (fun p => a.eval p.2) parts.toList (fun x _ => eval_rel s ht x.2)

/-- A builtin, as execOp runs it. -/
theorem exec_builtin {c : Call} {b : Builtin} (ho : o.op = .call c) (hc : c.callee = .builtin b) :
    (execOp a.eval o) = builtin b c.argTypes o.type (c.args.map fun | .const _ => true | _ => false) (c.args.map a.eval) := by
  simp only [execOp, ho, resolve, hc]
  rfl

theorem builtin_give {c : Call} {b : Builtin} {z : AV} {ty : TypeId} {consts : Array Bool} {vs : Array Value} {as : List AV} (h : aBuiltin P b c.argTypes.toList as = .give (some z)) (hr : relL φ as vs.toList) :
    ∃ v, (builtin b c.argTypes ty consts vs).run P w = .ok (.value v) w ∧ z.rel φ v := by
  unfold aBuiltin at h
  split at h <;> try cases h
  · -- cap
    rename_i t ts x r hts
    obtain ⟨v, hv, hx⟩ := first_of hr
    simp only [Do.give.injEq] at h
    obtain ⟨v', h1, h2⟩ := aCap_ok (w := w) (ty := ty) h hx (types_first hts) hv
    exact ⟨v', run_v h1, h2⟩
  · -- SliceData
    rename_i ts x hts
    simp only [Do.give.injEq] at h
    obtain ⟨v, r, hvs, hx, hnil⟩ := relL_cons.1 hr
    have hrn := relL_nil.1 hnil
    subst hrn
    have hvs' : vs = #[v] := Array.ext' hvs
    subst hvs'
    obtain ⟨v', h1, h2⟩ := aSliceData_ok (P := P) (w := w) (ts := c.argTypes) (ty := ty) h hx
    exact ⟨v', run_v h1, h2⟩
  · simp only [Do.give.injEq] at h
    obtain ⟨v', h1, h2⟩ := aMin_ok (P := P) (w := w) (ts := c.argTypes) (t := ty) h hr
    exact ⟨v', run_v h1, h2⟩
  · simp only [Do.give.injEq] at h
    obtain ⟨v', h1, h2⟩ := aMax_ok (P := P) (w := w) (ts := c.argTypes) (t := ty) h hr
    exact ⟨v', run_v h1, h2⟩

theorem evO_map (s : Sim φ W w) (ht : tmRel φ tm a.tmps) (x : Option Operand) : optRel φ (evO (aEval tm) x) (x.map a.eval) := evO_rel (fun y => eval_rel s ht y) x

/-- CLASS 0: it gives a value; the world is as it was. -/
theorem give_exec {z : AV} (s : Sim φ W w) (ht : tmRel φ tm a.tmps) (h : aDo o.op P e tm = .give (some z)) :
    (∀ c, o.op ≠ .defer c) ∧ ∃ v, (execOp a.eval o).run P w = .ok (.value v) w ∧ z.rel φ v := by
  have ev : ∀ y, (aEval tm y).rel φ (a.eval y) := fun y => eval_rel s ht y
  cases ho : o.op with
  | move x => rw [ho] at h; cases h; exact ⟨by simp, _, by simp only [execOp, ho]; rfl, ev x⟩
  | assign x => rw [ho] at h; cases h; exact ⟨by simp, _, by simp only [execOp, ho]; rfl, ev x⟩
  | pick c x y =>
    rw [ho] at h
    have h : aPick (aEval tm c) (aEval tm x) (aEval tm y) = some z := by injection h
    obtain ⟨t, v', hc, hv, hr⟩ := aPick_ok h (ev c) (ev x) (ev y)
    refine ⟨by simp, v', ?_, hr⟩
    simp only [execOp, ho, hc, asBool]
    rw [hv]
    cases t <;> rfl
  | build t parts =>
    rw [ho] at h
    have h : aBuild P t (partsOf (aEval tm) parts.toList) = some z := by injection h
    obtain ⟨h1, h2⟩ := parts_ok s ht parts
    obtain ⟨v, hv, hr⟩ := aBuild_ok (P := P) (w := w) h h1 h2
    exact ⟨by simp, v, by simp only [execOp, ho]; exact run_v hv, hr⟩
  | nilCheck x =>
    rw [ho] at h
    have h : aNilCheck (aEval tm x) = some z := by injection h
    obtain ⟨rfl, n1, n2, n3, n4⟩ := aNilCheck_ok h (ev x)
    refine ⟨by simp, a.eval x, ?_, ev x⟩
    simp only [execOp, ho]
    generalize a.eval x = vv at n1 n2 n3 n4 ⊢
    cases vv with
    | pointer p => cases p with
      | none => exact absurd rfl n1
      | some p => rfl
    | nilIface => exact absurd rfl n2
    | nilFunc => exact absurd rfl n3
    | func fn f c => cases fn with
      | method m => exact absurd rfl (n4 _ _ _)
      | _ => rfl
    | _ => rfl
  | binOp op t x y ty =>
    rw [ho] at h
    have h : aBin P op t x y (aEval tm x) (aEval tm y) = some z := by injection h
    obtain ⟨v, hv, hr⟩ := aBin_ok (P := P) (w := w) h (ev x) (ev y)
    exact ⟨by simp, v, by simp only [execOp, ho]; exact run_v hv, hr⟩
  | unOp op t x =>
    rw [ho] at h
    have h : aUn P op (aEval tm x) = some z := by injection h
    obtain ⟨v, hv, hr⟩ := aUn_ok (P := P) (w := w) h (ev x)
    exact ⟨by simp, v, by simp only [execOp, ho]; exact run_v hv, hr⟩
  | convert src dst x =>
    rw [ho] at h
    have h : aConvert P src dst (aEval tm x) = .give (some z) := h
    obtain ⟨v, hv, hr⟩ := aConvert_give (P := P) (w := w) h (ev x)
    exact ⟨by simp, v, by simp only [execOp, ho]; exact run_v hv, hr⟩
  | makeInterface t x =>
    rw [ho] at h
    have h : aMakeInterface P t (aEval tm x) = some z := by injection h
    obtain ⟨v, hv, hr⟩ := aMakeInterface_ok (P := P) (w := w) h (ev x)
    exact ⟨by simp, v, by simp only [execOp, ho]; exact run_v hv, hr⟩
  | makeFunc fn first captured =>
    rw [ho] at h
    have h : aMakeFunc (aEval tm) fn first captured = some z := by injection h
    have hr := aMakeFunc_ok h ev
    exact ⟨by simp, _, by simp only [execOp, ho]; rfl, hr⟩
  | slice t x lo hi mx =>
    rw [ho] at h
    have h : aSlice P t (aEval tm x) (evO (aEval tm) lo) (evO (aEval tm) hi) (evO (aEval tm) mx) = some z := by injection h
    obtain ⟨v, hv, hr⟩ := aSlice_ok (P := P) (w := w) h (ev x) (evO_map s ht lo) (evO_map s ht hi) (evO_map s ht mx)
    exact ⟨by simp, v, by simp only [execOp, ho]; exact run_v hv, hr⟩
  | fieldAddr t x f =>
    rw [ho] at h
    have h : aFieldAddr P t (aEval tm x) f = some z := by injection h
    obtain ⟨v, hv, hr⟩ := aFieldAddr_ok (P := P) (w := w) h (ev x)
    exact ⟨by simp, v, by simp only [execOp, ho]; exact run_v hv, hr⟩
  | field t x f =>
    rw [ho] at h
    have h : aField P t (aEval tm x) f = some z := by injection h
    obtain ⟨v, hv, hr⟩ := aField_ok (P := P) (w := w) h (ev x)
    exact ⟨by simp, v, by simp only [execOp, ho]; exact run_v hv, hr⟩
  | indexAddr t x ix =>
    rw [ho] at h
    have h : aIndexAddr P t (aEval tm x) (aEval tm ix) = some z := by injection h
    obtain ⟨v, hv, hr⟩ := aIndexAddr_ok (P := P) (w := w) h (ev x) (ev ix)
    exact ⟨by simp, v, by simp only [execOp, ho]; exact run_v hv, hr⟩
  | index t x ix =>
    rw [ho] at h
    have h : aIndex P t (aEval tm x) (aEval tm ix) = some z := by injection h
    obtain ⟨v, hv, hr⟩ := aIndex_ok (P := P) (w := w) h (ev x) (ev ix)
    exact ⟨by simp, v, by simp only [execOp, ho]; exact run_v hv, hr⟩
  | typeAssert x xt asserted ok =>
    rw [ho] at h
    have h : aAssert P (aEval tm x) asserted ok = some z := by injection h
    obtain ⟨v, hv, hr⟩ := aAssert_ok (P := P) (w := w) (xt := xt) h (ev x)
    exact ⟨by simp, v, by simp only [execOp, ho]; exact run_v hv, hr⟩
  | extract t ix =>
    rw [ho] at h
    have h : aExtract (aEval tm t) ix = some z := by injection h
    obtain ⟨v, hv, hr⟩ := aExtract_ok (P := P) (w := w) h (ev t)
    exact ⟨by simp, v, by simp only [execOp, ho]; exact run_v hv, hr⟩
  | call c =>
    rw [ho] at h
    have h : aCall P e tm c = .give (some z) := h
    unfold aCall at h
    split at h
    · rename_i b hb
      obtain ⟨v, hv, hr⟩ := builtin_give (P := P) (w := w) (ty := o.type) (consts := c.args.map fun | .const _ => true | _ => false) h (evL_rel s ht c.args)
      exact ⟨by simp, v, by rw [exec_builtin ho hb]; exact hv, hr⟩
    · cases h
    · cases h
  | _ => rw [ho] at h; first | (have h : Do.make _ = Do.give _ := h; cases h) | (have h : Do.look _ = Do.give _ := h; cases h) | (have h : Do.deed _ = Do.give _ := h; cases h) | (have h : Do.give none = Do.give _ := h; cases h)

/-- CLASS 0: it makes a block. -/
theorem make_exec {ob : AObj} {f : Nat → AV} (s : Sim φ W w) (ht : tmRel φ tm a.tmps) (h : aDo o.op P e tm = .make (some (ob, f))) :
    (∀ c, o.op ≠ .defer c) ∧ ∃ sm : Sem Value, execOp a.eval o = (do pure (.value (← sm))) ∧ MakeOk P φ w ob f sm := by
  have ev : ∀ y, (aEval tm y).rel φ (a.eval y) := fun y => eval_rel s ht y
  cases ho : o.op with
  | alloc elem =>
    rw [ho] at h
    have h : aAlloc P elem = some (ob, f) := by injection h
    exact ⟨by simp, Instr.alloc elem true (.tuple #[]), by simp only [execOp, ho], aAlloc_ok _ h⟩
  | box t x =>
    rw [ho] at h
    have h : aBox t (aEval tm x) = some (ob, f) := by injection h
    exact ⟨by simp, _, by simp only [execOp, ho], aBox_ok h (ev x)⟩
  | buildSlice t len parts =>
    rw [ho] at h
    have h : aBuildSlice P t len (partsOf (aEval tm) parts.toList) = some (ob, f) := by injection h
    obtain ⟨h1, h2⟩ := parts_ok s ht parts
    exact ⟨by simp, _, by simp only [execOp, ho], aBuildSlice_ok h h1 h2⟩
  | makeMap t r =>
    rw [ho] at h
    have h : aMakeMap P (aEval tm) t r = some (ob, f) := by injection h
    exact ⟨by simp, _, by simp only [execOp, ho], aMakeMap_ok h ev⟩
  | makeSlice t l c =>
    rw [ho] at h
    have h : aMakeSlice P t (aEval tm l) (aEval tm c) = some (ob, f) := by injection h
    exact ⟨by simp, _, by simp only [execOp, ho], aMakeSlice_ok h (ev l) (ev c)⟩
  | convert src dst x =>
    rw [ho] at h
    have h : aConvert P src dst (aEval tm x) = .make (some (ob, f)) := h
    unfold aConvert at h
    split at h
    · cases h
    · rename_i e hs hd
      have hx := ev x
      split at h
      · rename_i st he
        rw [he] at hx
        have hx := lit_rel hx
        have h : aToBytes P e st = some (ob, f) := by injection h
        exact ⟨by simp, convert src dst (.string st), by simp only [execOp, ho, hx], aToBytes_ok h hd hs⟩
      · cases h
    · cases h
    · cases h
    · cases h
    · split at h <;> cases h
    · split at h <;> cases h
  | call c =>
    rw [ho] at h
    have h : aCall P e tm c = .make (some (ob, f)) := h
    unfold aCall at h
    split at h
    · unfold aBuiltin at h
      split at h <;> cases h
    · cases h
    · cases h
  | _ => rw [ho] at h; first | (have h : Do.give _ = Do.make _ := h; cases h) | (have h : Do.look _ = Do.make _ := h; cases h) | (have h : Do.deed _ = Do.make _ := h; cases h)

/-- CLASS 1: it only looks. -/
theorem look_exec {f : AW → Option AV} {z : AV} (s : Sim φ W w) (ht : tmRel φ tm a.tmps) (h : aDo o.op P e tm = .look f) (hf : f W = some z) :
    (∀ c, o.op ≠ .defer c) ∧ ∃ v, (execOp a.eval o).run P w = .ok (.value v) w ∧ z.rel φ v := by
  have ev : ∀ y, (aEval tm y).rel φ (a.eval y) := fun y => eval_rel s ht y
  cases ho : o.op with
  | load t x =>
    rw [ho] at h
    have h : (fun W => aLoad P W t (aEval tm x)) = f := by injection h
    subst h
    obtain ⟨v, hv, hr⟩ := aLoad_ok (P := P) s hf (ev x)
    exact ⟨by simp, v, by simp only [execOp, ho]; exact run_v hv, hr⟩
  | lookup t x ix ok =>
    rw [ho] at h
    have h : (fun W => aLookup P W t (aEval tm x) (aEval tm ix) ok) = f := by injection h
    subst h
    obtain ⟨v, hv, hr⟩ := aLookup_ok (P := P) s hf (ev x) (ev ix)
    exact ⟨by simp, v, by simp only [execOp, ho]; exact run_v hv, hr⟩
  | convert src dst x =>
    rw [ho] at h
    have h : aConvert P src dst (aEval tm x) = .look f := h
    refine ⟨by simp, ?_⟩
    have key : ∃ v, (convert src dst (a.eval x)).run P w = .ok v w ∧ z.rel φ v := by
      unfold aConvert at h
      split at h
      · rename_i e hs hd
        have h : aToString P e (aEval tm x) = f := by injection h
        subst h
        exact aToString_ok s hf (ev x) hs hd
      · split at h <;> cases h
      · rename_i t hs hd
        have h : aUnsafe P t (aEval tm x) = f := by injection h
        subst h
        exact aUnsafe_ok s hf (ev x) hs hd
      · rename_i u hs hd
        have h : aSafe P u (aEval tm x) = f := by injection h
        subst h
        exact aSafe_ok s hf (ev x) hs hd
      · cases h
      · split at h <;> cases h
      · split at h <;> cases h
    obtain ⟨v, hv, hr⟩ := key
    exact ⟨v, by simp only [execOp, ho]; exact run_v hv, hr⟩
  | call c =>
    rw [ho] at h
    have h : aCall P e tm c = .look f := h
    unfold aCall at h
    split at h
    · rename_i b hb
      have hr := evL_rel s ht c.args
      generalize evL tm c.args = as at h hr
      unfold aBuiltin at h
      split at h <;> try cases h
      rename_i t ts x r hts
      obtain ⟨v, hv, hx⟩ := first_of hr
      obtain ⟨v', h1, h2⟩ := aLen_ok (P := P) (ty := o.type) s hf hx (types_first hts) hv
      exact ⟨by simp, v', by rw [exec_builtin ho hb]; exact run_v h1, h2⟩
    · cases h
    · cases h
  | _ => rw [ho] at h; first | (have h : Do.give _ = Do.look _ := h; cases h) | (have h : Do.make _ = Do.look _ := h; cases h) | (have h : Do.deed _ = Do.look _ := h; cases h)
end
end Go.Ab
