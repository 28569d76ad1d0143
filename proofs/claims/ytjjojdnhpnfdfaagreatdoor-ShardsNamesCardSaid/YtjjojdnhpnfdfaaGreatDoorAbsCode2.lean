import Derived.Test.YtjjojdnhpnfdfaaGreatDoorAbsCode
import Derived.Test.YtjjojdnhpnfdfaaGreatDoorAbsDraw5
set_option linter.all false
/-
  CALLS, DEFERRED CALLS, ROUNDS: OUT OF THE RUNS AT A LOWER FUEL.
-/
namespace Go.Ab
open Go
section
variable {P : Program} {go : CodeF} {φ : Phi} {W W' : AW} {w : World}

theorem writeN_tm {args : List AV} {t : Nat} : (writeN 0 args .leaf).get t = args[t]? := by
  rw [writeN_get]
  by_cases h : t < args.length
  · rw [if_pos (by omega)]; rfl
  · rw [if_neg (by omega), Tr.get_leaf, List.getElem?_eq_none (by omega)]

/-- The slots of a function that was entered. -/
theorem tmOf_rel {args : List AV} {vs : Array Value} {n : Nat} (h : relL φ args vs.toList) : tmRel φ (tmOf args n) (vs ++ Array.replicate (n - vs.size) undef) := by
  have hl : vs.size = args.length := by simpa using relL_length h
  refine ⟨?_, fun t => ?_⟩
  · show _ = Nat.max args.length n
    simp only [Array.size_append, Array.size_replicate]
    show vs.size + (n - vs.size) = max args.length n
    omega
  · rw [Tm.val_eq]
    show AV.rel φ (((writeN 0 args .leaf).get t).getD .undef) _
    rw [writeN_tm, Array.getD_eq_getD_getElem?]
    cases ha : args[t]? with
    | some x =>
      obtain ⟨v, hv, hr⟩ := relL_get h ha
      have hlt : t < args.length := (List.getElem?_eq_some_iff.1 ha).1
      rw [Array.getElem?_append_left (by rw [hl]; exact hlt)]
      have : vs[t]? = some v := by rw [← Array.getElem?_toList]; exact hv
      rw [this]; exact hr
    | none =>
      have hge : args.length ≤ t := List.getElem?_eq_none_iff.1 ha
      rw [Array.getElem?_append_right (by rw [hl]; exact hge), Array.getElem?_replicate]
      split <;> rfl

theorem bodyOf_some {f : FuncId} {fc : Func × Code} (h : bodyOf P f = some fc) : P.funcs[f]? = some fc.1 ∧ fc.1.body = some fc.2 := by
  unfold bodyOf at h
  split at h
  · rename_i fn hf
    split at h
    · rename_i c hc
      cases h
      exact ⟨funcO_eq hf, hc⟩
    · cases h
  · cases h

theorem dsRel_nil {D : List Deferred} (h : dsRel φ [] D) : D = [] := by cases D with | nil => rfl | cons x r => cases h

/-- A deferred call's function, entered. -/
theorem enter_of (hp : Plain P) {f : FuncId} {fn : Func} {c : Code} (hf : P.funcs[f]? = some fn) (hb : fn.body = some c) (vs : Array Value) (w : World) : (callFunc f vs).run P w = .ok (.enter f vs) w := by
  have hn := hp f fn hf (by rw [hb]; rfl)
  have hnone : ¬ fn.body = none := by rw [hb]; simp
  simp [callFunc, hf, hn, hnone]

theorem leave_ok (hg : GoOk P go) (hp : Plain P) {fn : Func} {tm : Tm} {tmps : Array Value} {R : Ending → World → Prop} : ∀ (ds : List ADef) (W W' : AW) (D : List Deferred) (φ : Phi) (w : World), aLeave P go ds W = some W' → Sim φ W w → dsRel φ ds D → tmRel φ tm tmps →
    (∀ φ' w', Sim φ' W' w' → Step φ W w φ' W' w' → tmRel φ' tm tmps → ∃ v, (results fn tmps).run P w' = .ok v w' ∧ R (.returned v) w') → LeavesInM Fence.wide 0 P fn tmps R D .returning w
  | [], W, W', D, φ, w, h, s, hd, ht, hR => by
    have h : some W = some W' := h
    cases h
    rw [dsRel_nil hd]
    exact hR φ w s (.refl _ _ _) ht
  | .mark b :: ds, W, W', D, φ, w, h, s, hd, ht, hR => by
    cases D with
    | nil => exact hd.elim
    | cons d D =>
      obtain ⟨⟨i, hi, hdt⟩, hd2⟩ := hd
      have h : (match W.at b with | some (.deferred false) => aLeave P go ds (W.put b (.deferred true)) | _ => none) = some W' := h
      split at h
      · rename_i hw
        obtain ⟨_, o, ho, hr⟩ := s.obj b i hi
        rw [hw] at ho; cases ho
        have hh : w.heap[i.cb]? = some (.deferred (some [])) := hr
        obtain ⟨s', t'⟩ := s.turn (w' := { w with heap := w.heap.setIfInBounds i.cb (.deferred none) }) (o' := .deferred true) hi hw rfl
          (fun k hk => by simp [Array.getElem?_setIfInBounds_ne (Ne.symm hk)]) (by simp) rfl rfl rfl (by show _ = _; simp [(Array.getElem?_eq_some_iff.1 hh).1])
        refine ⟨by simp, .inl ⟨i.cb, _, hdt, ?_, leave_ok hg hp ds _ W' D φ _ h s' hd2 ht (fun φ' w' a b c => hR φ' w' a (t'.trans b) c)⟩⟩
        simp [Instr.takeDeferred, run_getAny hh (by simp), run_setAny _ hh]
      · cases h
  | .call f captured args :: ds, W, W', D, φ, w, h, s, hd, ht, hR => by
    cases D with
    | nil => exact hd.elim
    | cons d D =>
      obtain ⟨⟨c', hdt, hcap, hargs⟩, hd2⟩ := hd
      obtain ⟨r, hr, h1⟩ := ob_some (show ob (aBody P go f (args ++ captured) W) _ = some W' from h)
      obtain ⟨fn1, s1⟩ := r
      obtain ⟨fc, hfc, h2⟩ := ob_some hr
      obtain ⟨q, hq, h3⟩ := ob_some h2
      obtain ⟨s2, hs2, h4⟩ := ob_some h3
      cases h4
      obtain ⟨hf, hb⟩ := bodyOf_some hfc
      have h1 : (match s1.ds with | [] => ob (aResults P s1 fc.1.results.toList) fun _ => aLeave P go ds s1.W | _ :: _ => no "deferred: defers") = some W' := h1
      split at h1
      · rename_i hds
        obtain ⟨zs, hz, h5⟩ := ob_some h1
        have hrel : relL φ (args ++ captured) (d.args ++ c').toList := by
          rw [Array.toList_append]; exact relL_append hargs hcap
        refine ⟨by simp, .inr ⟨fun hx => (by cases hx), .func f, c', f, d.args ++ c', hdt, ?_, fun _ _ => trivial, ?_⟩⟩
        · rw [hdt]
          exact enter_of hp hf hb _ w
        · have hbody : fc.2.wpIn Fence.wide 0 P (bodyPost P fc.1 (fun e w' => ∃ v φ', e = .returned v ∧ Sim φ' s1.W w' ∧ Step φ W w φ' s1.W w')) { tmps := (d.args ++ c') ++ Array.replicate (fc.1.ntmps - (d.args ++ c').size) undef, defers := [] } w := by
            have hst : StRel φ { tm := tmOf (args ++ captured) fc.1.ntmps, ds := [], W } { tmps := (d.args ++ c') ++ Array.replicate (fc.1.ntmps - (d.args ++ c').size) undef, defers := [] } w := ⟨tmOf_rel hrel, trivial, s⟩
            have key : ∀ φ' a' w', StRel φ' q.2 a' w' → Step φ W w φ' q.2.W w' → bodyPost P fc.1 (fun e w' => ∃ v φ', e = .returned v ∧ Sim φ' s1.W w' ∧ Step φ W w φ' s1.W w') (exitOf q.1) a' w' := by
              intro φ' a' w' hst' hstep
              have hq2 : s1 = q.2 ∧ (exitOf q.1 = .normal ∨ exitOf q.1 = .ret) := by
                unfold leftBy at hs2
                split at hs2
                · rename_i hx; cases hs2; exact ⟨rfl, .inl (by rw [hx]; rfl)⟩
                · rename_i hx; cases hs2; exact ⟨rfl, .inr (by rw [hx]; rfl)⟩
                · cases hs2
              obtain ⟨hq3, hq4⟩ := hq2
              rw [hq3] at hds hz ⊢
              have hnil : a'.defers = [] := dsRel_nil (hds ▸ hst'.ds)
              obtain ⟨v, hv, _⟩ := results_ok hst' hz
              rcases hq4 with hq4 | hq4 <;> rw [hq4] <;> exact ⟨hnil, v, hv, v, φ', rfl, hst'.sim, hstep⟩
            exact hg.wp (ir := false) (c := fc.2) (x := q.1) (s' := q.2) (l := none) hq rfl hst key
          refine (callsDIn_of_wp (u := .returning) hf hb trivial hbody).mono ?_
          rintro en u' w' ⟨rfl, v, φ', rfl, hs', hstep'⟩
          have ht' := ht.mono hstep'.le
          exact leave_ok hg hp ds s1.W W' D φ' w' h5 hs' (hd2.mono hstep'.le) ht' (fun φ2 w2 a b c => hR φ2 w2 a (hstep'.trans b) c)
      · cases h1

theorem callN_ok (hg : GoOk P go) (hp : Plain P) : CallOk P (aCallN P go) := by
  intro f args W r W' h φ w vs s hr
  unfold aCallN at h
  split at h
  · cases h
  · rename_i q0 hq0
    obtain ⟨fn, s1⟩ := q0
    obtain ⟨fc, hfc, h2⟩ := ob_some hq0
    obtain ⟨q, hq, h3⟩ := ob_some h2
    obtain ⟨s2, hs2, h4⟩ := ob_some h3
    cases h4
    obtain ⟨hf, hb⟩ := bodyOf_some hfc
    obtain ⟨W2, hlv, h5⟩ := ob_some h
    obtain ⟨zs, hz, h6⟩ := ob_some h5
    have h6 : some (asResult zs, W2) = some (r, W') := h6
    simp only [Option.some.injEq, Prod.mk.injEq] at h6
    obtain ⟨rfl, rfl⟩ := h6
    refine callsIn_of_wp_marks hf hb trivial ?_
    have hst : StRel φ { tm := tmOf args fc.1.ntmps, ds := [], W } { tmps := vs ++ Array.replicate (fc.1.ntmps - vs.size) undef, defers := [] } w := ⟨tmOf_rel hr, trivial, s⟩
    refine hg.wp (ir := false) (c := fc.2) (x := q.1) (s' := q.2) (l := none) hq rfl hst ?_
    intro φ' a' w' hst' hstep
    have hq2 : s1 = q.2 ∧ (exitOf q.1 = .normal ∨ exitOf q.1 = .ret) := by
      unfold leftBy at hs2
      split at hs2
      · rename_i hx; cases hs2; exact ⟨rfl, .inl (by rw [hx]; rfl)⟩
      · rename_i hx; cases hs2; exact ⟨rfl, .inr (by rw [hx]; rfl)⟩
      · cases hs2
    obtain ⟨hq3, hq4⟩ := hq2
    subst hq3
    have main : LeavesInM Fence.wide 0 P fc.1 a'.tmps (Ret (Post φ W w W2 (asResult zs))) a'.defers .returning w' := by
      refine leave_ok hg hp q.2.ds q.2.W W2 a'.defers φ' w' hlv hst'.sim hst'.ds hst'.tm ?_
      intro φ2 w2 hs2 hstep2 ht2
      have hst2 : StRel φ2 { tm := q.2.tm, ds := [], W := W2 } { tmps := a'.tmps, defers := [] } w2 := ⟨ht2, trivial, hs2⟩
      obtain ⟨v, hv, hvr⟩ := results_ok hst2 hz
      exact ⟨v, hv, v, rfl, φ2, hs2, hstep.trans hstep2, hvr⟩
    rcases hq4 with hq4 | hq4 <;> rw [hq4] <;> exact main

theorem setAll_ok {ps : List Tmp} : ∀ {args : List AV} {vs : List Value} {tm tm' : Tm} {tmps : Array Value}, relL φ args vs → args.length = ps.length → tmRel φ tm tmps → setAll (ps.zip args) tm = some tm' →
    tmRel φ tm' ((ps.zip vs).foldl (fun tmps (x : Tmp × Value) => tmps.setIfInBounds x.1 x.2) tmps) := by
  induction ps with
  | nil =>
    intro args vs tm tm' tmps h hl ht hs
    have hs : some tm = some tm' := by simpa [setAll] using hs
    cases hs
    simpa using ht
  | cons p ps ih =>
    intro args vs tm tm' tmps h hl ht hs
    cases args with
    | nil => simp at hl
    | cons x args =>
      obtain ⟨v, r, rfl, hv, hr⟩ := relL_cons.1 h
      obtain ⟨tm1, h1, h2⟩ := ob_some (show ob (Tm.putO (some p) x tm) (fun tm => setAll (ps.zip args) tm) = some tm' from hs)
      have ht1 := ht.putO (dst := some p) hv h1 []
      exact ih hr (by simpa using hl) ht1 h2

theorem round_ok (hg : GoOk P go) : RoundOk P (aRoundN go) := by
  intro L args W r W' h φ w i vs hi s hr
  unfold aRoundN at h
  split at h
  · rename_i p0 tm params assign body dd hW
    obtain ⟨hlen, h1⟩ := sel_some h rfl
    have hlen := Nat.eq_of_beq_eq_true hlen
    obtain ⟨tm1, ht1, h2⟩ := ob_some h1
    obtain ⟨q, hq, h3⟩ := ob_some h2
    obtain ⟨_, o, ho, hobj⟩ := s.obj L i hi
    rw [hW] at ho; cases ho
    obtain ⟨fn, tmps, j, hj, hheap, htm⟩ := hobj
    have hvl : vs.size = args.length := by simpa using relL_length hr
    refine ⟨.round i.cb fn ((params.zip vs).foldl (fun tmps (x : Tmp × Value) => tmps.setIfInBounds x.1 x.2) tmps) assign body, w, ?_, ?_⟩
    · have : ¬ vs.size ≠ params.size := by omega
      simp [Instr.yield, Instr.getLoop, run_getAny hheap (by simp), this]
    · have ht2 : tmRel φ tm1 ((params.zip vs).foldl (fun tmps (x : Tmp × Value) => tmps.setIfInBounds x.1 x.2) tmps) := by
        have := setAll_ok (ps := params.toList) hr (by simpa using hlen) htm ht1
        rw [← Array.foldl_toList, Array.toList_zip]
        exact this
      refine roundIn_of_wpIn trivial ?_
      have hst : StRel φ { tm := tm1, ds := [], W } { tmps := (params.zip vs).foldl (fun tmps (x : Tmp × Value) => tmps.setIfInBounds x.1 x.2) tmps, defers := [] } w := ⟨ht2, trivial, s⟩
      refine hg.wp (ir := true) (c := assign) (x := q.1) (s' := q.2) (l := some i.cb) hq rfl hst ?_
      intro φ' a' w' hst' hstep
      split at h3
      · rename_i _ _ p tm' params' assign' body' defers' hqn hWL
        rw [hqn]
        show ∃ w₂, _ ∧ _
        obtain ⟨qq, hqq, h4⟩ := ob_some h3
        have hi' := hstep.le L i hi
        obtain ⟨_, o', ho', hobj'⟩ := hst'.sim.obj L i hi'
        rw [hWL] at ho'; cases ho'
        obtain ⟨fn', tmps', j', hj', hheap', htm'⟩ := hobj'
        obtain ⟨s3, t3⟩ := hst'.sim.turn (w' := { w' with heap := w'.heap.setIfInBounds i.cb (.loop { state := .busy, pending := p, fn := fn', tmps := tmps', params := params', assign := assign', body := body', defers := j'.cb }) })
          (o' := .loop .busy p tm' params' assign' body' defers') hi' hWL rfl (fun k hk => by simp [Array.getElem?_setIfInBounds_ne (Ne.symm hk)]) (by simp) rfl rfl rfl
          ⟨fn', tmps', j', hj', by simp [(Array.getElem?_eq_some_iff.1 hheap').1], htm'⟩
        refine ⟨{ w' with heap := w'.heap.setIfInBounds i.cb (.loop { state := .busy, pending := p, fn := fn', tmps := tmps', params := params', assign := assign', body := body', defers := j'.cb }) }, ?_, ?_⟩
        rotate_left
        · have hst3 : StRel φ' { tm := q.2.tm, ds := q.2.ds, W := q.2.W.put L (.loop .busy p tm' params' assign' body' defers') } a' { w' with heap := w'.heap.setIfInBounds i.cb (.loop { state := .busy, pending := p, fn := fn', tmps := tmps', params := params', assign := assign', body := body', defers := j'.cb }) } := ⟨hst'.tm, hst'.ds, s3⟩
          refine hg.wp (ir := true) (c := body) (x := qq.1) (s' := qq.2) (l := some i.cb) hqq rfl hst3 ?_
          intro φ4 a4 w4 hst4 hstep4
          split at h4
          · rename_i st4 p4 tm4 params4 assign4 body4 defers4 hW4
            simp only [Option.some.injEq, Prod.mk.injEq] at h4
            obtain ⟨rfl, rfl⟩ := h4
            have hi4 := hstep4.le L i hi'
            obtain ⟨_, o4, ho4, hobj4⟩ := hst4.sim.obj L i hi4
            rw [hW4] at ho4; cases ho4
            obtain ⟨fn4, tmps4, j4, hj4, hheap4, htm4⟩ := hobj4
            obtain ⟨s5, t5⟩ := hst4.sim.turn (w' := { w4 with heap := w4.heap.setIfInBounds i.cb (.loop { state := if (jumpOf qq.1).isNone then .ready else .done, pending := jumpOf qq.1, fn := fn4, tmps := tmps4, params := params4, assign := assign4, body := body4, defers := j4.cb }) })
              (o' := .loop (if (jumpOf qq.1).isNone then .ready else .done) (jumpOf qq.1) tm4 params4 assign4 body4 defers4) hi4 hW4 rfl (fun k hk => by simp [Array.getElem?_setIfInBounds_ne (Ne.symm hk)]) (by simp) rfl rfl rfl
              ⟨fn4, tmps4, j4, hj4, by simp [(Array.getElem?_eq_some_iff.1 hheap4).1], htm4⟩
            have hend : (Instr.endRound i.cb (jumpOf qq.1)).run P w4 = .ok (.bool (jumpOf qq.1).isNone) { w4 with heap := w4.heap.setIfInBounds i.cb (.loop { state := if (jumpOf qq.1).isNone then .ready else .done, pending := jumpOf qq.1, fn := fn4, tmps := tmps4, params := params4, assign := assign4, body := body4, defers := j4.cb }) } := by
              simp [Instr.endRound, Instr.getLoop, run_getAny hheap4 (by simp), run_setAny _ hheap4]
            have hpost : Ret (Post φ W w (qq.2.W.put L (.loop (if (jumpOf qq.1).isNone then .ready else .done) (jumpOf qq.1) tm4 params4 assign4 body4 defers4)) (.lit (.bool (jumpOf qq.1).isNone))) (.returned (.bool (jumpOf qq.1).isNone)) _ :=
              ⟨_, rfl, φ4, s5, ((hstep.trans t3).trans hstep4).trans t5, rfl⟩
            cases hx : qq.1 with
            | normal => rw [hx] at hend hpost; exact ⟨_, _, hend, hpost⟩
            | exit id => rw [hx] at hend hpost; exact ⟨_, _, hend, hpost⟩
            | ret => rw [hx] at hend hpost; exact ⟨_, _, hend, hpost⟩
          · cases h4
        · simp [Instr.beginRound, Instr.getLoop, run_getAny hheap' (by simp), run_setAny _ hheap']
      · cases h3
  · cases h
end
end Go.Ab
