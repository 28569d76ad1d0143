import Derived.Test.YtjjojdnhpnfdfaaGreatDoorAbsCode2
set_option linter.all false
/-
  THE ABSTRACT RUN IS SOUND.
-/
namespace Go.Ab
open Go
section
variable {P : Program} {go : CodeF} {O : Orc} {φ : Phi} {W W' : AW} {w : World}

def plainQ (Q : Exit → Act → World → Prop) (x : AExit) (a : Act) (w : World) : Prop := Q (exitOf x) a w

theorem then_normal {K : Act → World → Prop} {Q : Exit → Act → World → Prop} {x : AExit} {a : Act} {w : World} (hx : x ≠ .normal) (h : Q (exitOf x) a w) : Exit.then K Q (exitOf x) a w := by
  cases x with
  | normal => exact absurd rfl hx
  | exit id => exact h
  | ret => exact h

theorem rangeFunc_ok (hg : GoOk P go) (hp : Plain P) {g : Operand} {params : Array Tmp} {assign body : Code} {s s' : St} {x : AExit} (h : aRangeFunc P go g params assign body s = some (x, s')) {a : Act} (hs : StRel φ s a w)
    {Q : Exit → Act → World → Prop} (hQ : ∀ φ' a' w', StRel φ' s' a' w' → Step φ s.W w φ' s'.W w' → Q (exitOf x) a' w') : (Code.rangeFunc g params assign body).wpIn (Fc none) 0 P Q a w := by
  unfold aRangeFunc at h
  simp only at h
  split at h
  · rename_i f first captured hfo
    obtain ⟨b, hb, h1⟩ := ob_some h
    obtain ⟨hbt, h2⟩ := sel_some h1 rfl
    subst hbt
    obtain ⟨r, hr, h3⟩ := ob_some h2
    obtain ⟨fn0, hfn0, hbody⟩ := hasBody_some hb
    have hf0 := funcO_eq hfn0
    obtain ⟨fn', f', c', hv, hfn, hrel1, hrel2⟩ := funcOf_rel hfo (eval_rel hs.sim hs.tm g)
    have hfn' : fn' = .func f := hfn
    subst hfn'
    -- the block for deferred calls
    obtain ⟨sD, tD⟩ := hs.sim.new (i := ⟨w.heap.size, 0, 0⟩) (o := .deferred false) (w' := { w with heap := w.heap.push (.deferred (some [])) }) rfl (fun k hk => by simp [Array.getElem?_push, Nat.ne_of_lt hk]) (by simp) rfl rfl rfl
      (by show _ = _; simp)
    have hDn : φ s.W.nxt = none := (hs.sim.newA .dead).1
    have hφD : (φ.set s.W.nxt ⟨w.heap.size, 0, 0⟩) s.W.nxt = some ⟨w.heap.size, 0, 0⟩ := Phi.set_same _ _ _
    have hnx1 : (s.W.new (.deferred false)).nxt = s.W.nxt + 1 := AW.nxt_new _ _
    refine wpIn_rangeFunc (F := Fc none) (n := 0) ?_
    intro fn _
    -- the loop's own
    obtain ⟨sL, tL⟩ := sD.new (i := ⟨w.heap.size + 1, 0, 0⟩) (o := .loop .ready none s.tm params assign body s.W.nxt)
      (w' := { w with heap := (w.heap.push (.deferred (some []))).push (.loop { state := .ready, pending := none, fn := fn, tmps := a.tmps, params := params, assign := assign, body := body, defers := w.heap.size }) }) (by simp)
      (fun k hk => by
        have hk' : k < (w.heap.push (.deferred (some []))).size := hk
        show ((w.heap.push (.deferred (some []))).push _)[k]? = (w.heap.push (.deferred (some [])))[k]?
        rw [Array.getElem?_push, if_neg (by omega)]) (by simp) rfl rfl rfl
      (by
        refine ⟨fn, a.tmps, ⟨w.heap.size, 0, 0⟩, ?_, ?_, ?_⟩
        · rw [Phi.set_other]
          · exact hφD
          · rw [hnx1]; omega
        · show (((w.heap.push (.deferred (some []))).push _)[w.heap.size + 1]? : Option Obj) = _
          rw [Array.getElem?_push, if_pos (by simp)]
        · exact (hs.tm.mono tD.le).mono (Phi.le_set _ (sD.newA .dead).1))
    have hL : ∃ ψ, ψ = (φ.set s.W.nxt ⟨w.heap.size, 0, 0⟩).set (s.W.new (.deferred false)).nxt ⟨w.heap.size + 1, 0, 0⟩ := ⟨_, rfl⟩
    obtain ⟨ψ, hψ⟩ := hL
    rw [← hψ] at sL tL
    have hψL : ψ (s.W.nxt + 1) = some ⟨w.heap.size + 1, 0, 0⟩ := by rw [hψ, ← hnx1]; exact Phi.set_same _ _ _
    have hψD : ψ s.W.nxt = some ⟨w.heap.size, 0, 0⟩ := by
      rw [hψ, Phi.set_other]
      · exact hφD
      · rw [hnx1]; omega
    have t2 := tD.trans tL
    obtain ⟨fcode, hfcode⟩ := Option.isSome_iff_exists.1 hbody
    have hvs : relL ψ (first ++ ([AV.func (.yield (s.W.nxt + 1)) [] []] ++ captured)) ((f' ++ #[Value.func (.yield (w.heap.size + 1)) #[] #[]]) ++ c').toList := by
      simp only [Array.toList_append, List.append_assoc]
      refine relL_append (relL_mono t2.le _ _ hrel1) (relL_append ?_ (relL_mono t2.le _ _ hrel2))
      exact ⟨⟨_, #[], #[], rfl, ⟨_, hψL, rfl⟩, trivial, trivial⟩, trivial⟩
    have hcall := callN_ok hg hp f _ _ r.1 r.2 hr ψ _ _ sL hvs
    let w1 : World := { w with heap := (w.heap.push (.deferred (some []))).push (.loop { state := .ready, pending := none, fn := fn, tmps := a.tmps, params := params, assign := assign, body := body, defers := w.heap.size }) }
    refine ⟨w.heap.size + 1, [{ target := .collected w.heap.size, args := #[] }], w1, { target := .fn (.func f) c', args := f' ++ #[Value.func (.yield (w.heap.size + 1)) #[] #[]] }, w1, f,
      (f' ++ #[Value.func (.yield (w.heap.size + 1)) #[] #[]]) ++ c', w1, ?_, ?_, fun _ _ => trivial, ?_, fun hx => (by cases hx), CallsIn.mono hcall ?_⟩
    · simp [Instr.enterLoop, newObj, Fc, Fence.wide, w1, Sem.run]
      rfl
    · simp only [resolve, rangeCall]
      rw [hv]
      simp [Deferred.ofValue, Act.eval]
    · exact enter_of hp hf0 hfcode _ _
    · rintro en w3 ⟨v, rfl, φ3, s3, t3, hz⟩
      split at h3
      · rename_i st p tm' params' assign' body' defers' hWL
        have hφ3L : φ3 (s.W.nxt + 1) = some ⟨w.heap.size + 1, 0, 0⟩ := t3.le _ _ hψL
        obtain ⟨_, o, ho, hobj⟩ := s3.obj _ _ hφ3L
        have hWL' : r.2.at (s.W.nxt + 1) = some (.loop st p tm' params' assign' body' defers') := hWL
        rw [hWL'] at ho; cases ho
        obtain ⟨fn', tmps', j', hj', hheap', htm'⟩ := hobj
        split at h3
        · cases h3
        · rename_i hbusy
          have hnb : ¬ (st = LoopState.busy) := fun hb => hbusy hb
          obtain ⟨s4, t4⟩ := s3.turn (w' := { w3 with heap := w3.heap.setIfInBounds (w.heap.size + 1) (.loop { state := .exhausted, pending := p, fn := fn', tmps := tmps', params := params', assign := assign', body := body', defers := j'.cb }) })
            (o' := .loop .exhausted p tm' params' assign' body' defers') hφ3L hWL' rfl (fun k hk => by simp [Array.getElem?_setIfInBounds_ne (Ne.symm hk)]) (by simp) rfl rfl rfl
            ⟨fn', tmps', j', hj', by simp [(Array.getElem?_eq_some_iff.1 hheap').1], htm'⟩
          have tAll := (t2.trans t3).trans t4
          have hst : StRel φ3 { tm := s.tm, ds := .mark s.W.nxt :: s.ds, W := r.2.put (s.W.nxt + 1) (.loop .exhausted p tm' params' assign' body' defers') }
              { a with defers := [{ target := .collected w.heap.size, args := #[] }] ++ a.defers } _ :=
            ⟨hs.tm.mono tAll.le, ⟨⟨_, t3.le _ _ hψD, rfl⟩, hs.ds.mono tAll.le⟩, s4⟩
          have hend : (Instr.endLoop (w.heap.size + 1)).run P w3 = .ok p { w3 with heap := w3.heap.setIfInBounds (w.heap.size + 1) (.loop { state := .exhausted, pending := p, fn := fn', tmps := tmps', params := params', assign := assign', body := body', defers := j'.cb }) } := by
            simp [Instr.endLoop, Instr.getLoop, run_getAny hheap' (by simp), run_setAny _ hheap', hnb]
          refine ⟨p, _, hend, ?_⟩
          cases p with
          | none =>
            simp only [Option.some.injEq, Prod.mk.injEq] at h3
            obtain ⟨rfl, rfl⟩ := h3
            exact hQ φ3 _ _ hst tAll
          | some c =>
            simp only at h3
            refine hg.wp (ir := false) (c := c) (x := x) (s' := s') (l := none) h3 rfl hst ?_
            intro φ5 a5 w5 hst5 hstep5
            exact hQ φ5 a5 w5 hst5 (tAll.trans hstep5)
      · cases h3
  · cases h

theorem code_ok (hg : GoOk P go) (hp : Plain P) (ho : OrcOk P O) : GoOk P (fun ir c s => aCode c P O go ir s) := by
  have env : ∀ (ir : Bool) (l : Option Nat), l.isSome = ir → EnvOk P l ⟨O, aCallN P go, aRoundN go, ir⟩ := fun ir l hl => ⟨callN_ok hg hp, ho, round_ok hg, hp, hl.symm⟩
  intro ir c s x s' h
  cases c with
  | skip =>
    have h : some (AExit.normal, s) = some (x, s') := h
    cases h
    exact ⟨0, fun l _ φ a w hs Q hQ => wpIn_skip (hQ φ a w hs (.refl _ _ _))⟩
  | label i =>
    have h : some (AExit.normal, s) = some (x, s') := h
    cases h
    exact ⟨0, fun l _ φ a w hs Q hQ => wpIn_label (hQ φ a w hs (.refl _ _ _))⟩
  | ret =>
    have h : some (AExit.ret, s) = some (x, s') := h
    cases h
    exact ⟨0, fun l _ φ a w hs Q hQ => wpIn_ret (hQ φ a w hs (.refl _ _ _))⟩
  | exit id =>
    have h : some (AExit.exit id, s) = some (x, s') := h
    cases h
    exact ⟨0, fun l _ φ a w hs Q hQ => wpIn_exit (hQ φ a w hs (.refl _ _ _))⟩
  | region id ops draw =>
    obtain ⟨s1, h1, h2⟩ := ob_some (show ob (aRegion P ⟨O, aCallN P go, aRoundN go, ir⟩ ops.toList draw s) _ = some (x, s') from h)
    cases h2
    refine ⟨0, fun l hl φ a w hs Q hQ => ?_⟩
    cases draw with
    | false => exact region_wp (env ir l hl) hs h1 hQ
    | true => exact draw_wp (env ir l hl) hs h1 hQ
  | seq b c =>
    obtain ⟨y, s1, h1, h2⟩ := ob2_some (show ob2 (go ir b s) (thenDo go ir c) = some (x, s') from h)
    refine ⟨0, fun l hl φ a w hs Q hQ => ?_⟩
    refine wpIn_seq (hg.wp h1 hl hs ?_)
    intro φ1 a1 w1 hs1 t1
    cases y with
    | normal => exact hg.wp (show go ir c s1 = some (x, s') from h2) hl hs1 (fun φ2 a2 w2 hs2 t2 => hQ φ2 a2 w2 hs2 (t1.trans t2))
    | exit id =>
      have h2 : some (AExit.exit id, s1) = some (x, s') := h2
      cases h2
      exact hQ φ1 a1 w1 hs1 t1
    | ret =>
      have h2 : some (AExit.ret, s1) = some (x, s') := h2
      cases h2
      exact hQ φ1 a1 w1 hs1 t1
  | cond c b d =>
    obtain ⟨t, ht, h1⟩ := ob_some (show ob (aEval s.tm c).bool? _ = some (x, s') from h)
    refine ⟨0, fun l hl φ a w hs Q hQ => ?_⟩
    have hev : a.eval c = .bool t := by
      have h2 := bool?_rel (eval_rel hs.sim hs.tm c)
      rw [ht] at h2
      cases hv : a.eval c <;> rw [hv] at h2 <;> first | (cases h2; rfl) | cases h2
    cases t with
    | true => exact wpIn_cond_true hev (hg.wp (show go ir b s = some (x, s') from h1) hl hs hQ)
    | false => exact wpIn_cond_false hev (hg.wp (show go ir d s = some (x, s') from h1) hl hs hQ)
  | block id b =>
    obtain ⟨y, s1, h1, h2⟩ := ob2_some (show ob2 (go ir b s) (outOf id) = some (x, s') from h)
    refine ⟨0, fun l hl φ a w hs Q hQ => wpIn_block (hg.wp h1 hl hs ?_)⟩
    intro φ1 a1 w1 hs1 t1
    cases y with
    | normal =>
      have h2 : some (AExit.normal, s1) = some (x, s') := h2
      cases h2
      exact hQ φ1 a1 w1 hs1 t1
    | ret =>
      have h2 : some (AExit.ret, s1) = some (x, s') := h2
      cases h2
      exact hQ φ1 a1 w1 hs1 t1
    | exit i =>
      have h2 : some (sel (Nat.beq i id) AExit.normal (.exit i), s1) = some (x, s') := h2
      show if i = id then Q .normal a1 w1 else Q (.exit i) a1 w1
      by_cases hi : i = id
      · rw [if_pos hi]
        have : Nat.beq i id = true := by rw [hi]; exact Nat.beq_refl id
        rw [this, sel_true] at h2
        cases h2
        exact hQ φ1 a1 w1 hs1 t1
      · rw [if_neg hi]
        have : Nat.beq i id = false := by
          cases hb : Nat.beq i id with
          | false => rfl
          | true => exact absurd (Nat.eq_of_beq_eq_true hb) hi
        rw [this, sel_false] at h2
        cases h2
        exact hQ φ1 a1 w1 hs1 t1
  | loop b =>
    obtain ⟨y, s1, h1, h2⟩ := ob2_some (show ob2 (go ir b s) (thenDo go ir (.loop b)) = some (x, s') from h)
    cases y with
    | normal =>
      obtain ⟨j, hj⟩ := hg ir (.loop b) s1 x s' h2
      refine ⟨j + 1, fun l hl φ a w hs Q hQ => ?_⟩
      show b.wpIn (Fc l) 0 P (Exit.then (LoopOk (Fc l) 0 P b Q j) Q) a w
      refine hg.wp h1 hl hs ?_
      intro φ1 a1 w1 hs1 t1
      exact hj l hl φ1 a1 w1 hs1 Q (fun φ2 a2 w2 hs2 t2 => hQ φ2 a2 w2 hs2 (t1.trans t2))
    | exit id =>
      have h2 : some (AExit.exit id, s1) = some (x, s') := h2
      cases h2
      refine ⟨1, fun l hl φ a w hs Q hQ => ?_⟩
      show b.wpIn (Fc l) 0 P (Exit.then (LoopOk (Fc l) 0 P b Q 0) Q) a w
      exact hg.wp h1 hl hs (fun φ1 a1 w1 hs1 t1 => hQ φ1 a1 w1 hs1 t1)
    | ret =>
      have h2 : some (AExit.ret, s1) = some (x, s') := h2
      cases h2
      refine ⟨1, fun l hl φ a w hs Q hQ => ?_⟩
      show b.wpIn (Fc l) 0 P (Exit.then (LoopOk (Fc l) 0 P b Q 0) Q) a w
      exact hg.wp h1 hl hs (fun φ1 a1 w1 hs1 t1 => hQ φ1 a1 w1 hs1 t1)
  | rangeFunc g params assign body =>
    have h : sel ir (no "range over a function in a round") (aRangeFunc P go g params assign body s) = some (x, s') := h
    cases ir with
    | true => rw [sel_true] at h; cases h
    | false =>
      rw [sel_false] at h
      refine ⟨0, fun l hl φ a w hs Q hQ => ?_⟩
      have hl0 : l = none := by cases l with | none => rfl | some i => cases hl
      subst hl0
      exact rangeFunc_ok hg hp h hs hQ
  | scope b =>
    refine ⟨0, fun l hl φ a w hs Q hQ => wpIn_scope_straight (hg.wp (show go ir b s = some (x, s') from h) hl hs ?_)⟩
    intro φ1 a1 w1 hs1 t1
    cases x <;> exact hQ φ1 a1 w1 hs1 t1
  | _ => cases h

theorem run_ok (hp : Plain P) (ho : OrcOk P O) : ∀ n, GoOk P (run P O n)
  | 0 => fun ir c s x s' h => by cases h
  | n + 1 => code_ok (run_ok hp ho n) hp ho

/-- **THE ABSTRACT RUN IS SOUND.** -/
theorem callN_sound (hp : Plain P) (ho : OrcOk P O) (n : Nat) : CallOk P (callN P O n) := callN_ok (run_ok hp ho n) hp
end
end Go.Ab
