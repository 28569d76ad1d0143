import Derived.Test.YtjjojdnhpnfdfaaGreatDoorAbsDo
set_option linter.all false
/-
  CALLS, ROUNDS, DEFERRED CALLS: WHAT IS ASKED OF THEM.
-/
namespace Go.Ab
open Go

/-- What stands behind a run that answers: a related value, a related world. -/
def Post (φ : Phi) (W : AW) (w : World) (W' : AW) (z : AV) (v : Value) (w' : World) : Prop := ∃ φ', Sim φ' W' w' ∧ Step φ W w φ' W' w' ∧ z.rel φ' v

/-- An ending that returns. -/
def Ret (R : Value → World → Prop) (en : Ending) (w' : World) : Prop := ∃ v, en = .returned v ∧ R v w'

/-- What an operation comes to. -/
def NextOk (P : Program) (R : Value → World → Prop) (s : Sem Next) (w : World) : Prop :=
  ∃ nx w1, s.run P w = .ok nx w1 ∧ (match nx with
    | .value v => R v w1
    | .skip => R undef w1
    | .enter f args => CallsIn Fence.wide 0 P f args w1 (Ret R)
    | .round l f tmps assign body => RoundIn Fence.wide 0 P l f tmps assign body w1 (Ret R)
    | _ => False)

def CallOk (P : Program) (c : CallF) : Prop := ∀ f args W r W', c f args W = some (r, W') → ∀ φ w vs, Sim φ W w → relL φ args vs.toList → CallsIn Fence.wide 0 P f vs w (Ret (Post φ W w W' r))
def OrcOk (P : Program) (c : Orc) : Prop := ∀ f args W r W', c f args W = some (r, W') → ∀ φ w vs, Sim φ W w → relL φ args vs.toList → NextOk P (Post φ W w W' r) (callFunc f vs) w
def RoundOk (P : Program) (c : RoundF) : Prop := ∀ L args W r W', c L args W = some (r, W') → ∀ φ w i vs, φ L = some i → Sim φ W w → relL φ args vs.toList → NextOk P (Post φ W w W' r) (Instr.yield i.cb vs) w

/-- No function with a body is one of the machine's own. -/
def Plain (P : Program) : Prop := ∀ (f : FuncId) (fn : Func), P.funcs[f]? = some fn → fn.body.isSome = true → fn.name ≠ "runtime.NumGoroutine"

structure EnvOk (P : Program) (l : Option Nat) (e : Env) : Prop where
  call : CallOk P e.call
  orc : OrcOk P e.orc
  round : RoundOk P e.round
  plain : Plain P
  there : e.inRound = l.isSome

section
variable {P : Program} {φ : Phi} {W W' : AW} {w : World} {e : Env} {tm : Tm} {a : Act} {o : Oper} {l : Option Nat}

theorem NextOk.value {R : Value → World → Prop} {s : Sem Next} {v : Value} {w' : World} (h : s.run P w = .ok (.value v) w') (hr : R v w') : NextOk P R s w := ⟨_, _, h, hr⟩
theorem NextOk.skip {R : Value → World → Prop} {s : Sem Next} {w' : World} (h : s.run P w = .ok .skip w') (hr : R undef w') : NextOk P R s w := ⟨_, _, h, hr⟩
theorem NextOk.congr {R : Value → World → Prop} {s s' : Sem Next} (h : NextOk P R s w) (he : s'.run P w = s.run P w) : NextOk P R s' w := by
  obtain ⟨nx, w1, h1, h2⟩ := h
  exact ⟨nx, w1, he.trans h1, h2⟩

/-- An operation that is no 'defer', carried out. -/
theorem NextOk.wpIn {R : Value → World → Prop} {next : Act → World → Prop} {Q : Exit → Act → World → Prop} (hd : ∀ c, o.op ≠ .defer c) (h : NextOk P R (execOp a.eval o) w) (hn : ∀ v w', R v w' → next (a.put o.dst v) w') :
    o.wpIn (Fc l) 0 P a w next Q := by
  obtain ⟨nx, w1, h1, h2⟩ := h
  refine ⟨fun _ _ => trivial, ?_⟩
  rw [Oper.semAt_eq _ _ _ hd, h1]
  cases nx with
  | value v => exact hn v w1 h2
  | skip => exact hn undef w1 h2
  | enter f args =>
    refine ⟨fun h => (by cases h), ?_⟩
    have h2' : CallsIn (Fc l) 0 P f args w1 (Ret R) := h2
    refine CallsIn.mono h2' ?_
    rintro en w' ⟨v, rfl, hR⟩
    exact hn v w' hR
  | round L f tmps assign body =>
    refine ⟨fun h => (by cases h), ?_⟩
    have h2' : RoundIn (Fc l) 0 P L f tmps assign body w1 (Ret R) := h2
    refine RoundIn.mono h2' ?_
    rintro en w' ⟨v, rfl, hR⟩
    exact hn v w' hR
  | _ => exact h2.elim

theorem hasBody_some {f : FuncId} {b : Bool} (h : hasBody P f = some b) : ∃ fn, funcO P f = some fn ∧ fn.body.isSome = b := by
  unfold hasBody at h
  split at h
  · cases h
  · rename_i fn hf
    exact ⟨fn, hf, by simpa using h⟩

theorem aCallFunc_ok (he : EnvOk P l e) (s : Sim φ W w) {f : FuncId} {args : List AV} {vs : Array Value} {z : AV} (h : aCallFunc P e f args W = some (z, W')) (hr : relL φ args vs.toList) : NextOk P (Post φ W w W' z) (callFunc f vs) w := by
  unfold aCallFunc at h
  cases ho : e.orc f args W with
  | some r =>
    rw [ho, orec_some] at h
    cases h
    exact he.orc f args W z W' ho φ w vs s hr
  | none =>
    rw [ho, orec_none] at h
    obtain ⟨b, hb, h1⟩ := ob_some h
    obtain ⟨fn, hf, hbd⟩ := hasBody_some hb
    have hf' := funcO_eq hf
    cases b with
    | true =>
      rw [sel_true] at h1
      have hn := he.plain f fn hf' hbd
      refine ⟨.enter f vs, w, ?_, he.call f args W z W' h1 φ w vs s hr⟩
      have hnone : ¬ fn.body = none := fun hx => by rw [hx] at hbd; cases hbd
      simp [callFunc, hf', hn, hnone]
    | false =>
      rw [sel_false] at h1
      obtain ⟨l', hl, h2⟩ := ob_some h1
      have hvs := concL_rel _ _ _ hl hr
      split at h2
      · rename_i v hv
        cases h2
        have hvs' : l'.toArray = vs := by rw [← hvs]
        rw [hvs'] at hv
        exact NextOk.value (pureRun_run hv w) ⟨φ, s, .refl _ _ _, rfl⟩
      · cases h2

theorem funcOf_rel {x : AV} {v : Value} {fn : Fn} {first captured : List AV} (h : funcOf x = some (fn, first, captured)) (hx : x.rel φ v) :
    ∃ fn' f' c', v = .func fn' f' c' ∧ fnRel φ fn fn' ∧ relL φ first f'.toList ∧ relL φ captured c'.toList := by
  unfold funcOf at h
  split at h
  · cases h
    obtain ⟨fn', f', c', rfl, h1, h2, h3⟩ := hx
    exact ⟨fn', f', c', rfl, h1, h2, h3⟩
  · cases h
    cases lit_rel hx
    exact ⟨_, _, _, rfl, rfl, relL_lits _, relL_lits _⟩
  · cases h

/-- A value, called. -/
theorem aCallValue_ok (he : EnvOk P l e) (s : Sim φ W w) {x : AV} {xv : Value} {args : List AV} {vs : Array Value} {z : AV} (h : aCallValue P e x args W = some (z, W')) (hx : x.rel φ xv) (hr : relL φ args vs.toList) :
    NextOk P (Post φ W w W' z) (do let d ← Deferred.ofValue xv vs; invoke d.target d.args) w := by
  unfold aCallValue at h
  split at h
  · rename_i g first captured hf
    obtain ⟨fn', f', c', rfl, hfn, h1, h2⟩ := funcOf_rel hf hx
    have hfn' : fn' = .func g := hfn
    subst hfn'
    have hrel : relL φ (first ++ (args ++ captured)) ((f' ++ vs) ++ c').toList := by
      simp only [Array.toList_append, List.append_assoc]
      exact relL_append h1 (relL_append hr h2)
    exact NextOk.congr (aCallFunc_ok he s h hrel) rfl
  · rename_i L hf
    obtain ⟨fn', f', c', rfl, hfn, h1, h2⟩ := funcOf_rel hf hx
    have hf0 : f' = #[] := Array.ext' (relL_nil.1 h1)
    have hc0 : c' = #[] := Array.ext' (relL_nil.1 h2)
    subst hf0; subst hc0
    obtain ⟨i, hi, rfl⟩ := hfn
    refine NextOk.congr (he.round L args W z W' h φ w i vs hi s hr) ?_
    have : (#[] : Array Value) ++ vs = vs := by simp
    show (Instr.yield i.cb (#[] ++ vs)).run P w = _
    rw [this]
  · cases h

theorem aMethod_ok {t : TypeId} {name : String} {f : FuncId} {v : Value} {n : Nat} (h : aMethod P t name = some f) : (method (n + 1) t v name).run P w = .ok (f, v) w := by
  unfold aMethod at h
  split at h
  · cases h
  · rename_i i hi
    split at h
    · cases h
    · rename_i m hm
      obtain ⟨hp, h1⟩ := sel_some h rfl
      have hpath : m.path = #[] := Array.isEmpty_iff.1 hp
      split at h1
      · rename_i g e hmf hu
        cases h1
        simp [method, run_info hi, hm, hpath, follow, hmf, receiverAt, run_und hu, Place.get]
      · cases h1
      · cases h1
      · rename_i g d hnp hmf hu
        cases h1
        simp only [method, Sem.run_bind, run_info hi, Result.andThen_ok, hm, hpath, follow, Sem.run_pure, hmf, receiverAt, run_und hu]
        cases d <;> first | exact absurd hu (hnp _ _ hmf) | (simp [Place.get]; done) | trace_state
      · cases h1

theorem depth_pos : 0 < Made.depth := by decide

theorem aInvoke_ok (he : EnvOk P l e) (s : Sim φ W w) {x : AV} {xv : Value} {name : String} {args : List AV} {vs : Array Value} {z : AV} (h : aInvoke P e x name args W = some (z, W')) (hx : x.rel φ xv) (hr : relL φ args vs.toList) :
    NextOk P (Post φ W w W' z) (invoke (.fn (.method name) #[]) (#[xv] ++ vs)) w := by
  obtain ⟨r, hri, h1⟩ := ob_some h
  obtain ⟨f, hf, h2⟩ := ob_some h1
  obtain ⟨y, rfl, hy⟩ := AV.asIface_rel hri hx
  obtain ⟨n, hn⟩ : ∃ n, P.types.size + Made.depth = n + 1 := ⟨P.types.size + Made.depth - 1, by have := depth_pos; omega⟩
  have hm := aMethod_ok (w := w) (v := y) (n := n) hf
  have hrel : relL φ (r.2 :: args) (#[y] ++ vs).toList := by
    simp only [Array.toList_append]
    exact ⟨hy, hr⟩
  refine NextOk.congr (aCallFunc_ok he s h2 hrel) ?_
  have h0 : (#[Value.iface r.1 y] ++ vs)[0]? = some (.iface r.1 y) := by
    rw [← Array.getElem?_toList, Array.toList_append]; rfl
  have h3 : (#[Value.iface r.1 y] ++ vs).extract 1 (#[Value.iface r.1 y] ++ vs).size = vs := by
    apply Array.ext'
    simp
  simp only [invoke, h0, h3, callMethod, Sem.run_bind, run_program, Result.andThen_ok, hn, hm]

theorem DeedOk.next {z : AV} {sm : Sem Value} (h : DeedOk P φ W w W' z sm) : NextOk P (Post φ W w W' z) (do pure (.value (← sm))) w := by
  obtain ⟨φ', v, w', h1, h2, h3, h4⟩ := h
  exact NextOk.value (run_v h1) ⟨φ', h2, h3, h4⟩
theorem UnitOk.next {sm : Sem Unit} (h : UnitOk P φ W w W' sm) : NextOk P (Post φ W w W' .undef) (do sm; pure .skip) w := by
  obtain ⟨φ', w', h1, h2, h3⟩ := h
  exact NextOk.skip (run_u h1) ⟨φ', h2, h3, rfl⟩

theorem onW_some {s s' : St} {r : Option (AV × AW)} {z : AV} (h : onW s r = some (z, s')) : s'.tm = s.tm ∧ s'.ds = s.ds ∧ r = some (z, s'.W) := by
  obtain ⟨q, hq, h1⟩ := ob_some h
  cases h1
  exact ⟨rfl, rfl, hq⟩
theorem onU_some {s s' : St} {r : Option AW} {z : AV} (h : onU s r = some (z, s')) : s'.tm = s.tm ∧ s'.ds = s.ds ∧ z = .undef ∧ r = some s'.W := by
  obtain ⟨q, hq, h1⟩ := ob_some h
  cases h1
  exact ⟨rfl, rfl, rfl, hq⟩

theorem builtin_deed {s s' : St} {c : Call} {b : Builtin} {z : AV} {ty : TypeId} {consts : Array Bool} {vs : Array Value} {as : List AV} {f : St → Option (AV × St)} (sm : Sim φ s.W w) (h : aBuiltin P b c.argTypes.toList as = .deed f)
    (hf : f s = some (z, s')) (hr : relL φ as vs.toList) : s'.tm = s.tm ∧ s'.ds = s.ds ∧ NextOk P (Post φ s.W w s'.W z) (builtin b c.argTypes ty consts vs) w := by
  unfold aBuiltin at h
  split at h <;> try cases h
  · rename_i t u ts x y r hts
    obtain ⟨v, hv, hx⟩ := first_of hr
    obtain ⟨v2, hv2, hy⟩ := second_of hr
    obtain ⟨h1, h2, h3⟩ := onW_some hf
    exact ⟨h1, h2, (aAppend_ok (ty := ty) sm h3 hx hy (types_first hts) (types_second hts) hv hv2).next⟩
  · rename_i t ts x y r hts
    obtain ⟨v, hv, hx⟩ := first_of hr
    obtain ⟨v2, hv2, hy⟩ := second_of hr
    obtain ⟨h1, h2, h3⟩ := onW_some hf
    exact ⟨h1, h2, (aCopy_ok (ty := ty) sm h3 hx hy (types_first hts) hv hv2).next⟩
  · rename_i t ts x y r hts
    obtain ⟨v, hv, hx⟩ := first_of hr
    obtain ⟨v2, hv2, hy⟩ := second_of hr
    obtain ⟨h1, h2, rfl, h3⟩ := onU_some hf
    exact ⟨h1, h2, (aDelete_ok (ty := ty) sm h3 hx hy (types_first hts) hv hv2).next⟩
  · rename_i t ts x r hts
    obtain ⟨v, hv, hx⟩ := first_of hr
    obtain ⟨h1, h2, rfl, h3⟩ := onU_some hf
    exact ⟨h1, h2, (aClear_ok (ty := ty) sm h3 hx (types_first hts) hv).next⟩
  · rename_i t ts x n hts
    obtain ⟨v, r, hvs, hx, hr2⟩ := relL_cons.1 hr
    obtain ⟨u, r2, rfl, hn, hr3⟩ := relL_cons.1 hr2
    have hnil := relL_nil.1 hr3
    subst hnil
    have hvs' : vs = #[v, u] := Array.ext' hvs
    subst hvs'
    obtain ⟨h1, h2, h3⟩ := aUnsafeString_ok (P := P) (ty := ty) sm hf hx hn (types_first hts)
    exact ⟨h1, h2, h3.next⟩

/-- CLASS 2, but a 'defer'. -/
theorem deed_exec {s s' : St} {f : St → Option (AV × St)} {z : AV} (he : EnvOk P l e) (sm : Sim φ s.W w) (ht : tmRel φ s.tm a.tmps) (h : aDo o.op P e s.tm = .deed f) (hf : f s = some (z, s')) (hd : ∀ c, o.op ≠ .defer c) :
    s'.tm = s.tm ∧ s'.ds = s.ds ∧ NextOk P (Post φ s.W w s'.W z) (execOp a.eval o) w := by
  have ev : ∀ y, (aEval s.tm y).rel φ (a.eval y) := fun y => eval_rel sm ht y
  cases ho : o.op with
  | defer c => exact absurd ho (hd c)
  | store t x y =>
    rw [ho] at h
    have h : (fun q => onU q (aStore P q.W t (aEval s.tm x) (aEval s.tm y))) = f := by injection h
    subst h
    obtain ⟨h1, h2, rfl, h3⟩ := onU_some hf
    exact ⟨h1, h2, by simp only [execOp, ho]; exact (aStore_ok sm h3 (ev x) (ev y)).next⟩
  | mapUpdate t m k x =>
    rw [ho] at h
    have h : (fun q => onU q (aMapUpdate P q.W t (aEval s.tm m) (aEval s.tm k) (aEval s.tm x))) = f := by injection h
    subst h
    obtain ⟨h1, h2, rfl, h3⟩ := onU_some hf
    exact ⟨h1, h2, by simp only [execOp, ho]; exact (aMapUpdate_ok sm h3 (ev m) (ev k) (ev x)).next⟩
  | insert t m k x =>
    rw [ho] at h
    have h : (fun q => onU q (aMapUpdate P q.W t (aEval s.tm m) (aEval s.tm k) (aEval s.tm x))) = f := by injection h
    subst h
    obtain ⟨h1, h2, rfl, h3⟩ := onU_some hf
    exact ⟨h1, h2, by simp only [execOp, ho]; exact (aMapUpdate_ok sm h3 (ev m) (ev k) (ev x)).next⟩
  | range t x =>
    rw [ho] at h
    have h : (fun q => onW q (aRange P q.W t (aEval s.tm x))) = f := by injection h
    subst h
    obtain ⟨h1, h2, h3⟩ := onW_some hf
    exact ⟨h1, h2, by simp only [execOp, ho]; exact (aRange_ok sm h3 (ev x)).next⟩
  | next it isString =>
    rw [ho] at h
    have h : (fun q => onW q (aNext q.W (aEval s.tm it) isString)) = f := by injection h
    subst h
    obtain ⟨h1, h2, h3⟩ := onW_some hf
    exact ⟨h1, h2, by simp only [execOp, ho]; exact (aNext_ok sm h3 (ev it)).next⟩
  | convert src dst x =>
    rw [ho] at h
    have h : aConvert P src dst (aEval s.tm x) = .deed f := h
    unfold aConvert at h
    split at h
    · cases h
    · split at h <;> cases h
    · cases h
    · cases h
    · have h : (fun q : St => aMark P src dst (aEval s.tm x) (fun q => q.W.cells) q) = f := by injection h
      subst h
      obtain ⟨rfl, h2⟩ := aMark_ok (P := P) sm hf rfl (ev x)
      exact ⟨rfl, rfl, by simp only [execOp, ho]; exact h2.next⟩
    · split at h <;> cases h
    · split at h <;> cases h
  | call c =>
    rw [ho] at h
    have h : aCall P e s.tm c = .deed f := h
    unfold aCall at h
    have hr := evL_rel sm ht c.args
    split at h
    · rename_i b hb
      obtain ⟨h1, h2, h3⟩ := builtin_deed (P := P) (ty := o.type) (consts := c.args.map fun | .const _ => true | _ => false) sm h hf hr
      exact ⟨h1, h2, by rw [exec_builtin ho hb]; exact h3⟩
    · rename_i g hg
      have h : (fun q => onW q (aCallValue P e (aEval s.tm g) (evL s.tm c.args) q.W)) = f := by injection h
      subst h
      obtain ⟨h1, h2, h3⟩ := onW_some hf
      refine ⟨h1, h2, ?_⟩
      have := aCallValue_ok he sm h3 (ev g) hr
      simpa only [execOp, ho, resolve, hg] using this
    · rename_i recv name hg
      have h : (fun q => onW q (aInvoke P e (aEval s.tm recv) name (evL s.tm c.args) q.W)) = f := by injection h
      subst h
      obtain ⟨h1, h2, h3⟩ := onW_some hf
      refine ⟨h1, h2, ?_⟩
      refine NextOk.congr (aInvoke_ok he sm h3 (ev recv) hr) ?_
      simp only [execOp, ho, resolve, hg]
      rfl
  | _ => rw [ho] at h; first | (have h : Do.give _ = Do.deed _ := h; cases h) | (have h : Do.make _ = Do.deed _ := h; cases h) | (have h : Do.look _ = Do.deed _ := h; cases h)
end
end Go.Ab
