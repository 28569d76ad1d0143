import Derived.Test.YtjjojdnhpnfdfaaGreatDoorAbsOper
set_option linter.all false
/-
  CODE: WHAT THE BIG-STEP RUN SAYS OF THE MACHINE'S.
-/
namespace Go.Ab
open Go

/-! ### Loops by a number of rounds -/
def LoopOk (F : Fence) (n : Nat) (P : Program) (c : Code) (Q : Exit → Act → World → Prop) : Nat → Act → World → Prop
  | 0, _, _ => False
  | j + 1, a, w => c.wpIn F n P (Exit.then (LoopOk F n P c Q j) Q) a w

theorem wpIn_loop_rounds {F : Fence} {n : Nat} {P : Program} {c : Code} {Q : Exit → Act → World → Prop} {a : Act} {w : World} {j : Nat} (h : LoopOk F n P c Q j a w) : (Code.loop c).wpIn F n P Q a w := by
  intro b k cs hro hb hr
  have key : ∀ j a w, LoopOk F n P c Q j a w → ∃ e a' w', Q e a' w' ∧ ArrivesIn (Machine.fenced P F) P (lone (b.atR a (.code c :: .inLoop c :: k)) cs w) b k cs e a' w' := by
    intro j
    induction j with
    | zero => intro a w h; exact h.elim
    | succ j ih =>
      intro a w h
      obtain ⟨e, a₁, w₁, hq, harr⟩ := h b (.inLoop c :: k) cs hro hb hr
      cases e with
      | normal =>
        obtain ⟨e₂, a₂, w₂, hq₂, harr₂⟩ := ih a₁ w₁ hq
        exact ⟨e₂, a₂, w₂, hq₂, .of_steps (StepsIn.trans harr (.one (fenced_calm hb hr rfl) stepR_inLoop)) harr₂⟩
      | exit id => exact ⟨_, a₁, w₁, hq, .pass (x := .inLoop c) rfl (fun _ _ => .inl (by simp)) harr⟩
      | goto l => exact ⟨_, a₁, w₁, hq, .pass (x := .inLoop c) rfl (fun _ _ => .inl (by simp)) harr⟩
      | ret => exact ⟨_, a₁, w₁, hq, .pass (x := .inLoop c) rfl (fun _ _ => .inl (by simp)) harr⟩
      | panic ch => exact ⟨_, a₁, w₁, hq, .pass (x := .inLoop c) rfl (fun _ _ => .inl (by simp)) harr⟩
      | outgrown => exact ⟨_, a₁, w₁, hq, .pass (x := .inLoop c) rfl (fun _ _ => .inl (by simp)) harr⟩
  obtain ⟨e, a', w', hq, harr⟩ := key j a w h
  exact ⟨e, a', w', hq, .of_steps (.one (fenced_calm hb hr rfl) stepR_loop) harr⟩

/-! ### Scopes -/
/-- No jump by a label. -/
def noGo (Q : Exit → Act → World → Prop) : Exit → Act → World → Prop
  | .goto _, _, _ => False
  | e, a, w => Q e a w
section
variable {F : Fence} {n : Nat} {P : Program} {b : Frame} {a : Act} {k : List Item} {cs : List Frame} {w : World} {Q : Exit → Act → World → Prop}
theorem stepR_scope {c : Code} : step P (lone (b.atR a (.code (.scope c) :: k)) cs w) = .next (lone (b.atR a (.code c :: .inScope c :: k)) cs w) :=
  step_lone_go (by simp [stepG, stepG.exec, Frame.atR])
theorem stepR_inScope {c : Code} : step P (lone (b.atR a (.inScope c :: k)) cs w) = .next (lone (b.atR a k) cs w) :=
  step_lone_go (by simp [stepG, stepG.exec, Frame.atR])

theorem wpIn_scope_straight {c : Code} (h : c.wpIn F n P (noGo Q) a w) : (Code.scope c).wpIn F n P Q a w := by
  intro b k cs hro hb hr
  have h0 : (lone (b.atR a (.code (.scope c) :: k)) cs w).fenced P F := fenced_calm hb hr rfl
  obtain ⟨e, a₁, w₁, hq, harr⟩ := h b (.inScope c :: k) cs hro hb hr
  cases e with
  | normal => exact ⟨.normal, a₁, w₁, hq, .head h0 stepR_scope (StepsIn.trans harr (.one (fenced_calm hb hr rfl) stepR_inScope))⟩
  | exit id =>
    have hx : exitTo id (.inScope c :: k) = exitTo id k := by simp [exitTo]
    exact ⟨.exit id, a₁, w₁, hq, fun k' hk => .head h0 stepR_scope (harr.1 k' (by rw [hx]; exact hk)),
      fun hr' hk => let ⟨k₁, h1, h2⟩ := harr.2 hr' (by rw [hx]; exact hk); ⟨k₁, h1, .head h0 stepR_scope h2⟩⟩
  | goto l => exact hq.elim
  | ret => exact ⟨_, a₁, w₁, hq, .of_steps (.one h0 stepR_scope) harr⟩
  | panic ch => exact ⟨_, a₁, w₁, hq, .of_steps (.one h0 stepR_scope) harr⟩
  | outgrown => exact ⟨_, a₁, w₁, hq, .of_steps (.one h0 stepR_scope) harr⟩
end

/-! ### What is asked of the runs at a lower fuel -/
def exitOf : AExit → Exit
  | .normal => .normal
  | .exit id => .exit id
  | .ret => .ret

/-- A loop: by a number of rounds; all else: as it stands. -/
def WpJ (F : Fence) (P : Program) (j : Nat) (c : Code) (Q : Exit → Act → World → Prop) (a : Act) (w : World) : Prop := match c with
  | .loop b => LoopOk F 0 P b Q j a w
  | c => c.wpIn F 0 P Q a w

theorem WpJ.wp {F : Fence} {P : Program} {j : Nat} {c : Code} {Q : Exit → Act → World → Prop} {a : Act} {w : World} (h : WpJ F P j c Q a w) : c.wpIn F 0 P Q a w := by
  unfold WpJ at h
  split at h
  · exact wpIn_loop_rounds h
  · exact h

def GoOk (P : Program) (go : CodeF) : Prop := ∀ ir c s x s', go ir c s = some (x, s') → ∃ j, ∀ l : Option Nat, l.isSome = ir → ∀ φ a w, StRel φ s a w → ∀ Q : Exit → Act → World → Prop,
  (∀ φ' a' w', StRel φ' s' a' w' → Step φ s.W w φ' s'.W w' → Q (exitOf x) a' w') → WpJ (Fc l) P j c Q a w

theorem GoOk.wp {P : Program} {go : CodeF} (h : GoOk P go) {ir : Bool} {c : Code} {s s' : St} {x : AExit} (hx : go ir c s = some (x, s')) {l : Option Nat} (hl : l.isSome = ir) {φ : Phi} {a : Act} {w : World} (hs : StRel φ s a w)
    {Q : Exit → Act → World → Prop} (hQ : ∀ φ' a' w', StRel φ' s' a' w' → Step φ s.W w φ' s'.W w' → Q (exitOf x) a' w') : c.wpIn (Fc l) 0 P Q a w :=
  let ⟨_, hj⟩ := h ir c s x s' hx
  (hj l hl φ a w hs Q hQ).wp

theorem Fc_none : Fc none = Fence.wide := rfl

section
variable {P : Program} {φ : Phi} {w : World} {a : Act} {s s' : St}

/-! ### Results -/
theorem aResult_ok (h : StRel φ s a w) : ∀ {r : ResultVar} {z : AV}, aResult P s r = some z →
    ∃ v, ((match r with | .tmp t => pure (a.tmps.getD t undef) | .cell c t => do loadVar t (← asAddr (a.tmps.getD c undef))) : Sem Value).run P w = .ok v w ∧ z.rel φ v
  | .tmp t, z, hr => by
    have hr : some (s.tm.val t) = some z := hr
    cases hr
    exact ⟨_, rfl, h.tm.2 t⟩
  | .cell c t, z, hr => by
    have hr : aLoad P s.W t (s.tm.val c) = some z := hr
    have hc := h.tm.2 c
    obtain ⟨v, hv, hz⟩ := aLoad_ok (P := P) h.sim hr hc
    refine ⟨v, ?_, hz⟩
    obtain ⟨p, hp, _⟩ := ob_some hr
    rw [AV.ptr?_some hp] at hc
    obtain ⟨i, hi, hcv⟩ := hc
    rw [hcv] at hv
    simp only [hcv]
    exact hv

theorem aResults_ok (h : StRel φ s a w) : ∀ {rs : List ResultVar} {l : List AV}, aResults P s rs = some l →
    ∃ vs, (rs.mapM fun r => ((match r with | .tmp t => pure (a.tmps.getD t undef) | .cell c t => do loadVar t (← asAddr (a.tmps.getD c undef))) : Sem Value)).run P w = .ok vs w ∧ relL φ l vs
  | [], l, hr => by
    have hr : some [] = some l := hr
    cases hr
    exact ⟨[], rfl, trivial⟩
  | r :: rs, l, hr => by
    obtain ⟨v, hv, h1⟩ := ob_some hr
    obtain ⟨vs, hvs, h2⟩ := ob_some h1
    cases h2
    obtain ⟨u, hu, hur⟩ := aResult_ok h hv
    obtain ⟨us, hus, husr⟩ := aResults_ok h hvs
    refine ⟨u :: us, ?_, hur, husr⟩
    rw [List.mapM_cons]
    simp only [Sem.run_bind, hu, Result.andThen_ok, hus, Sem.run_pure]

theorem results_ok (h : StRel φ s a w) {fn : Func} {l : List AV} (hr : aResults P s fn.results.toList = some l) : ∃ v, (results fn a.tmps).run P w = .ok v w ∧ (asResult l).rel φ v := by
  obtain ⟨vs, hvs, hrel⟩ := aResults_ok h hr
  have hm : (fn.results.mapM fun r => ((match r with | .tmp t => pure (a.tmps.getD t undef) | .cell c t => do loadVar t (← asAddr (a.tmps.getD c undef))) : Sem Value)).run P w = .ok vs.toArray w := by
    rw [Array.mapM_eq_mapM_toList, Sem.run_map, hvs]
    rfl
  have key : (results fn a.tmps).run P w = .ok (if h : vs.toArray.size = 1 then vs.toArray[0] else .tuple vs.toArray) w := by
    unfold results
    rw [Sem.run_bind]
    have : ∀ {r : Result (Array Value)} (hx : ((fn.results.mapM fun x => (match x with | .tmp t => pure (a.tmps.getD t undef) | .cell c t => do loadVar t (← asAddr (a.tmps.getD c undef))) : Sem (Array Value))).run P w = r), True := fun _ => trivial
    erw [hm]
    rfl
  refine ⟨_, key, ?_⟩
  match l, vs, hrel with
  | [], [], _ => exact ⟨_, rfl, trivial⟩
  | [x], [v], h => exact h.1
  | x :: y :: r, v :: u :: q, h => exact ⟨_, rfl, h⟩
end
end Go.Ab
