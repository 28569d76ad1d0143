import Derived.Test.YtjjojdnhpnfdfaaGreatDoorAbsCall
set_option linter.all false
/-
  ONE OPERATION AFTER THE OTHER.
-/
namespace Go.Ab
open Go

def defRel (φ : Phi) : ADef → Deferred → Prop
  | .call g captured args, d => ∃ c', d.target = .fn (.func g) c' ∧ relL φ captured c'.toList ∧ relL φ args d.args.toList
  | .mark b, d => ∃ i, φ b = some i ∧ d.target = .collected i.cb

def dsRel (φ : Phi) : List ADef → List Deferred → Prop
  | [], [] => True
  | x :: r, d :: s => defRel φ x d ∧ dsRel φ r s
  | _, _ => False

theorem defRel.mono {φ ψ : Phi} (h : φ.le ψ) : ∀ {x : ADef} {d : Deferred}, defRel φ x d → defRel ψ x d
  | .call .., _, ⟨c', h1, h2, h3⟩ => ⟨c', h1, relL_mono h _ _ h2, relL_mono h _ _ h3⟩
  | .mark _, _, ⟨i, h1, h2⟩ => ⟨i, h _ _ h1, h2⟩
theorem dsRel.mono {φ ψ : Phi} (h : φ.le ψ) : ∀ {x : List ADef} {d : List Deferred}, dsRel φ x d → dsRel ψ x d
  | [], [], _ => trivial
  | _ :: _, _ :: _, ⟨h1, h2⟩ => ⟨h1.mono h, dsRel.mono h h2⟩

/-- A frame's state stands for an activation's. -/
structure StRel (φ : Phi) (s : St) (a : Act) (w : World) : Prop where
  tm : tmRel φ s.tm a.tmps
  ds : dsRel φ s.ds a.defers
  sim : Sim φ s.W w

section
variable {P : Program} {φ : Phi} {w : World} {e : Env} {a : Act} {o : Oper} {l : Option Nat} {s s' : St}

theorem StRel.mono {φ' : Phi} {w' : World} {W' : AW} (h : StRel φ s a w) (st : Step φ s.W w φ' W' w') (sm : Sim φ' W' w') : StRel φ' ⟨s.tm, s.ds, W'⟩ a w' :=
  ⟨h.tm.mono st.le, h.ds.mono st.le, sm⟩

theorem fin_some {dst : Option Tmp} {v : AV} (h : fin dst v s = some s') : ∃ tm, Tm.putO dst v s.tm = some tm ∧ s' = ⟨tm, s.ds, s.W⟩ := by
  cases s
  obtain ⟨tm, h1, h2⟩ := ob_some h
  cases h2
  exact ⟨tm, h1, rfl⟩

theorem StRel.fin {dst : Option Tmp} {z : AV} {v : Value} (h : StRel φ s a w) (hz : z.rel φ v) (hf : fin dst z s = some s') : StRel φ s' (a.put dst v) w := by
  obtain ⟨tm, h1, rfl⟩ := fin_some hf
  refine ⟨?_, by rw [Act.put_defers']; exact h.ds, h.sim⟩
  have := h.tm.putO hz h1 a.defers
  exact this

def Value.asBool? : Value → Option Bool
  | .bool b => some b
  | _ => none

theorem bool?_rel {x : AV} {v : Value} (h : x.rel φ v) : x.bool? = Value.asBool? v := by
  cases x with
  | lit y =>
    have : v = y := h
    subst this
    cases v <;> rfl
  | ptr b off => obtain ⟨i, hi, rfl⟩ := h; rfl
  | slice b off len cap sz => obtain ⟨i, y, c, hi, rfl, _⟩ := h; rfl
  | mapr r => obtain ⟨i, hi, rfl⟩ := h; rfl
  | func fn f c => obtain ⟨fn', f', c', rfl, _⟩ := h; rfl
  | iface t y => obtain ⟨y, rfl, _⟩ := h; rfl
  | agg cs => obtain ⟨l, rfl, _⟩ := h; rfl
  | tuple cs => obtain ⟨l, rfl, _⟩ := h; rfl

theorem yielded_def (ops : Array Oper) (tmps : Array Value) (j : Nat) : yielded ops tmps j = (((ops[j]?).bind (·.dst)).bind (tmps[·]?)).bind Value.asBool? := by
  unfold yielded
  cases ((ops[j]?).bind (·.dst)).bind (tmps[·]?) with
  | none => rfl
  | some v => cases v <;> rfl

theorem saidYes_eq {ops : Array Oper} {tm : Tm} {tmps : Array Value} (ht : tmRel φ tm tmps) (j : Nat) : saidYes ops.toList tm j = yielded ops tmps j := by
  rw [yielded_def]
  unfold saidYes
  rw [nth_eq, Array.getElem?_toList, ob_eq]
  cases ops[j]? with
  | none => rfl
  | some oj =>
    simp only [Option.bind_some]
    rw [ob_eq]
    cases oj.dst with
    | none => rfl
    | some d =>
      simp only [Option.bind_some]
      rw [bool?_rel (ht.2 d)]
      rw [Array.getD_eq_getD_getElem?]
      cases tmps[d]? with
      | none => rfl
      | some v => rfl

/-- Did the guard say what the operation waits for? -/
theorem wanted_eq {ops : Array Oper} {tm : Tm} {tmps : Array Value} (ht : tmRel φ tm tmps) (o : Oper) : aWanted ops.toList tm o = Region.wanted o (yielded ops tmps) := by
  unfold aWanted Region.wanted
  cases o.guard with
  | none => rfl
  | some g =>
    obtain ⟨j, want⟩ := g
    rw [orec_some, saidYes_eq ht]
    show orec false (fun b => b == want) (yielded ops tmps j) = (yielded ops tmps j == some want)
    cases yielded ops tmps j with
    | none => rfl
    | some b => rfl

/-- Deferred: nothing of memory turns. -/
theorem defer_wp {c : Call} {z : AV} {next : Act → World → Prop} {Q : Exit → Act → World → Prop} (he : EnvOk P l e) (h : StRel φ s a w) (ho : o.op = .defer c) (hf : aDefer e s.tm c s = some (z, s'))
    (hn : ∀ a', StRel φ s' a' w → a'.tmps = a.tmps → z = .undef → s'.tm = s.tm → s'.W = s.W → next (a'.put o.dst undef) w) : o.wpIn (Fc l) 0 P a w next Q := by
  unfold aDefer at hf
  cases hr : e.inRound with
  | true => rw [hr, sel_true] at hf; cases hf
  | false =>
    rw [hr, sel_false] at hf
    have hl : l = none := by
      have := he.there
      rw [hr] at this
      cases l with
      | none => rfl
      | some x => cases this
    subst hl
    split at hf
    · rename_i f hc
      split at hf
      · rename_i g first captured hfo
        cases hf
        obtain ⟨fn', f', c', hv, hfn, h1, h2⟩ := funcOf_rel hfo (eval_rel h.sim h.tm f)
        have hfn' : fn' = .func g := hfn
        subst hfn'
        have hargs := evL_rel h.sim h.tm c.args
        refine ⟨fun _ _ => trivial, ?_⟩
        have hx : (Oper.semAt (Fc none).round a.eval o).run P w = .ok (.defer { target := .fn (.func g) c', args := f' ++ c.args.map a.eval }) w := by
          have e1 : Oper.semAt (Fc none).round a.eval o = execOp a.eval o := rfl
          rw [e1]
          simp only [execOp, ho, resolve, hc, hv]
          rfl
        rw [hx]
        refine hn { a with defers := _ } ⟨h.tm, ⟨⟨c', rfl, h2, ?_⟩, h.ds⟩, h.sim⟩ rfl rfl rfl rfl
        show relL φ _ (f' ++ c.args.map a.eval).toList
        rw [Array.toList_append]
        exact relL_append h1 hargs
      · cases hf
    · cases hf

/-- What a deed leads to, deferring or not. -/
theorem deed_wp {f : St → Option (AV × St)} {z : AV} {next : Act → World → Prop} {Q : Exit → Act → World → Prop} (he : EnvOk P l e) (h : StRel φ s a w) (hdo : aDo o.op P e s.tm = .deed f) (hf : f s = some (z, s'))
    (hn : ∀ φ' v a' w', StRel φ' s' a' w' → a'.tmps = a.tmps → z.rel φ' v → s'.tm = s.tm → Step φ s.W w φ' s'.W w' → next (a'.put o.dst v) w') : o.wpIn (Fc l) 0 P a w next Q := by
  by_cases hd : ∃ c, o.op = .defer c
  · obtain ⟨c, ho⟩ := hd
    rw [ho] at hdo
    have hdo : (fun q => aDefer e s.tm c q) = f := by injection hdo
    subst hdo
    exact defer_wp he h ho hf (fun a' h1 h2 hz h3 h4 => hn φ undef a' w h1 h2 (hz ▸ rfl) h3 (h4 ▸ Step.refl _ _ _))
  · have hd : ∀ c, o.op ≠ .defer c := fun c ho => hd ⟨c, ho⟩
    obtain ⟨h1, h2, h3⟩ := deed_exec he h.sim h.tm hdo hf hd
    refine NextOk.wpIn hd h3 ?_
    rintro v w' ⟨φ', sm, st, hz⟩
    refine hn φ' v a w' ⟨by rw [h1]; exact h.tm.mono st.le, by rw [h2]; exact h.ds.mono st.le, sm⟩ rfl hz h1 st

/-- **ONE OPERATION.** -/
theorem aOper_wp {ops : Array Oper} {next : Act → World → Prop} {Q : Exit → Act → World → Prop} (he : EnvOk P l e) (h : StRel φ s a w) (ha : aOper P e ops.toList o s = some s')
    (hn : ∀ φ' a' w', StRel φ' s' a' w' → Step φ s.W w φ' s'.W w' → next a' w') :
    if Region.wanted o (yielded ops a.tmps) then o.wpIn (Fc l) 0 P a w next Q else (∀ f, o.about P w a.eval = some f → (Fc l).fn f) ∧ next (a.put o.dst undef) w := by
  obtain ⟨tm, ds, W⟩ := s
  have ha : ob2 (sel (aWanted ops.toList tm o) (doIt (aDo o.op P e tm) tm ds W) (some (.undef, ⟨tm, ds, W⟩))) (fin o.dst) = some s' := ha
  obtain ⟨z, s1, h1, h2⟩ := ob2_some ha
  rw [← wanted_eq h.tm o]
  cases hw : aWanted ops.toList tm o with
  | false =>
    rw [hw, sel_false] at h1
    cases h1
    rw [if_neg (by simp)]
    refine ⟨fun _ _ => trivial, ?_⟩
    have h3 := h.fin (v := undef) (z := .undef) rfl h2
    obtain ⟨tm', _, rfl⟩ := fin_some h2
    exact hn φ _ w h3 (Step.refl _ _ _)
  | true =>
    rw [hw, sel_true] at h1
    rw [if_pos rfl]
    cases hdo : aDo o.op P e tm with
    | give v =>
      rw [hdo] at h1
      obtain ⟨v', hv, h3⟩ := ob_some (show ob v _ = some (z, s1) from h1)
      cases h3
      subst hv
      obtain ⟨hd, u, hu, hz⟩ := give_exec h.sim h.tm hdo
      refine NextOk.wpIn (R := fun v w' => v = u ∧ w' = w) hd (NextOk.value hu ⟨rfl, rfl⟩) ?_
      rintro v w' ⟨rfl, rfl⟩
      have h3 := h.fin hz h2
      obtain ⟨tm', _, rfl⟩ := fin_some h2
      exact hn φ _ _ h3 (Step.refl _ _ _)
    | look f =>
      rw [hdo] at h1
      obtain ⟨v', hv, h3⟩ := ob_some (show ob (f W) _ = some (z, s1) from h1)
      cases h3
      obtain ⟨hd, u, hu, hz⟩ := look_exec h.sim h.tm hdo hv
      refine NextOk.wpIn (R := fun v w' => v = u ∧ w' = w) hd (NextOk.value hu ⟨rfl, rfl⟩) ?_
      rintro v w' ⟨rfl, rfl⟩
      have h3 := h.fin hz h2
      obtain ⟨tm', _, rfl⟩ := fin_some h2
      exact hn φ _ _ h3 (Step.refl _ _ _)
    | make m =>
      rw [hdo] at h1
      cases m with
      | none => cases h1
      | some p =>
      obtain ⟨ob', f⟩ := p
      have h1 : some (f W.nxt, (⟨tm, ds, W.new ob'⟩ : St)) = some (z, s1) := h1
      simp only [Option.some.injEq, Prod.mk.injEq] at h1
      obtain ⟨rfl, rfl⟩ := h1
      obtain ⟨hd, sm, hex, hmk⟩ := make_exec h.sim h.tm hdo
      obtain ⟨hn0, _, _⟩ := h.sim.newA ob'
      obtain ⟨i, v, w1, hrun, hi, hi0, hold, hsz, hos, htp, hop, hobj, hz⟩ := hmk W.nxt hn0
      obtain ⟨sm', st⟩ := h.sim.new hi hold hsz hos htp hop hobj
      have hrun' : (execOp a.eval o).run P w = .ok (.value v) w1 := by rw [hex]; exact run_v hrun
      refine NextOk.wpIn (R := fun v' w' => v' = v ∧ w' = w1) hd (NextOk.value hrun' ⟨rfl, rfl⟩) ?_
      rintro v' w' ⟨rfl, rfl⟩
      have h3 := (h.mono st sm').fin hz h2
      obtain ⟨tm', _, rfl⟩ := fin_some h2
      exact hn _ _ _ h3 st
    | deed f =>
      rw [hdo] at h1
      have h1 : f ⟨tm, ds, W⟩ = some (z, s1) := h1
      refine deed_wp he h hdo h1 ?_
      intro φ' v a' w' h3 _ hz _ st
      have h4 := h3.fin hz h2
      obtain ⟨tm', _, rfl⟩ := fin_some h2
      exact hn _ _ _ h4 st

theorem aOps_cons (ops : List Oper) (o : Oper) (r : List Oper) (s : St) : aOps P e ops (o :: r) s = ob (aOper P e ops o s) (aOps P e ops r) := rfl

theorem aOps_wp {ops : Array Oper} {Q : Exit → Act → World → Prop} (he : EnvOk P l e) : ∀ (n k : Nat) (s s' : St) (φ : Phi) (a : Act) (w : World), k + n = ops.size → StRel φ s a w → aOps P e ops.toList (ops.toList.drop k) s = some s' →
    (∀ φ' a' w', StRel φ' s' a' w' → Step φ s.W w φ' s'.W w' → Q .normal a' w') → wpOpsIn (Fc l) 0 P ops Q (List.range' k n) a w
  | 0, k, s, s', φ, a, w, hk, h, ha, hn => by
    have : ops.toList.drop k = [] := List.drop_eq_nil_of_le (by simp; omega)
    rw [this] at ha
    have ha : some s = some s' := ha
    cases ha
    exact hn φ a w h (Step.refl _ _ _)
  | n + 1, k, s, s', φ, a, w, hk, h, ha, hn => by
    have hlt : k < ops.toList.length := by simp; omega
    rw [List.drop_eq_getElem_cons hlt, aOps_cons] at ha
    obtain ⟨s1, h1, h2⟩ := ob_some ha
    have ho : ops[k]? = some ops.toList[k] := by rw [← Array.getElem?_toList]; exact List.getElem?_eq_getElem hlt
    rw [List.range'_succ]
    simp only [wpOpsIn, ho]
    refine aOper_wp he h h1 ?_
    intro φ' a' w' h3 st
    exact aOps_wp he n (k + 1) s1 s' φ' a' w' (by omega) h3 h2 (fun φ2 a2 w2 h4 st2 => hn φ2 a2 w2 h4 (st.trans st2))

/-- **A REGION IN THE ORDER OF THE TEXT.** -/
theorem region_wp {id : Nat} {ops : Array Oper} {Q : Exit → Act → World → Prop} (he : EnvOk P l e) (h : StRel φ s a w) (ha : aOps P e ops.toList ops.toList s = some s')
    (hn : ∀ φ' a' w', StRel φ' s' a' w' → Step φ s.W w φ' s'.W w' → Q .normal a' w') : (Code.region id ops false).wpIn (Fc l) 0 P Q a w := by
  refine wpIn_region ?_
  rw [List.range_eq_range']
  exact aOps_wp he ops.size 0 s s' φ a w (by omega) h ha hn
end
end Go.Ab
