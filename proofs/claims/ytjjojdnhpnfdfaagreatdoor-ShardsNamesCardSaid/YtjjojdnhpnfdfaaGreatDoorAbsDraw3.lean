import Derived.Test.YtjjojdnhpnfdfaaGreatDoorAbsDraw2
set_option linter.all false
/-
  A REGION THAT DRAWS ITS ORDER: WHAT STANDS WHILE IT RUNS.
-/
namespace Go.Ab
open Go

section
variable {P : Program} {e : Env} {ops : Array Oper} {l : Option Nat}

/-- A slot that one of these operations writes. -/
def Wr (ops : Array Oper) (E : Nat → Prop) (t : Tmp) : Prop := ∃ j o, E j ∧ ops[j]? = some o ∧ o.dst = some t

open Classical in
noncomputable def mix (ops : Array Oper) (E : Nat → Prop) (s s0 : Tm) (t : Tmp) : AV := if Wr ops E t then s.val t else s0.val t

theorem mix_wr {E : Nat → Prop} {s s0 : Tm} {t : Tmp} (h : Wr ops E t) : mix ops E s s0 t = s.val t := by unfold mix; rw [if_pos h]
theorem mix_not {E : Nat → Prop} {s s0 : Tm} {t : Tmp} (h : ¬ Wr ops E t) : mix ops E s s0 t = s0.val t := by unfold mix; rw [if_neg h]

abbrev An (P : Program) (ops : Array Oper) (i : Nat) : Nat → Prop := fun j => tb (ancOf P ops.toList i) j = true
abbrev Dn (done : Nat) : Nat → Prop := fun j => tb done j = true

theorem tmpsOf_mem {l : List Operand} {t : Tmp} (h : Operand.tmp t ∈ l) : t ∈ tmpsOf l := by
  unfold tmpsOf; exact List.mem_filterMap.2 ⟨_, h, rfl⟩

theorem looks_eval {o : Oper} {tm tm' : Tm} (h : ∀ t ∈ looksAt ops.toList o, tm.val t = tm'.val t) : ∀ x ∈ o.op.operands, aEval tm x = aEval tm' x := by
  intro x hx
  cases x with
  | tmp t => exact h t (by unfold looksAt; exact List.mem_append.2 (.inr (tmpsOf_mem (by simpa using hx))))
  | const v => rfl
  | global g => rfl
  | func f => rfl

theorem do_congr {o : Oper} {tm tm' : Tm} (h : ∀ t ∈ looksAt ops.toList o, tm.val t = tm'.val t) : aDo o.op P e tm = aDo o.op P e tm' := aDo_congr (looks_eval h)

theorem wanted_congr {o : Oper} {tm tm' : Tm} (h : ∀ t ∈ looksAt ops.toList o, tm.val t = tm'.val t) : aWanted ops.toList tm o = aWanted ops.toList tm' o := by
  unfold aWanted
  cases hg : o.guard with
  | none => rfl
  | some g =>
    rw [orec_some, orec_some]
    have : saidYes ops.toList tm g.1 = saidYes ops.toList tm' g.1 := by
      unfold saidYes
      cases ho : nth ops.toList g.1 with
      | none => rfl
      | some og =>
        show ob og.dst _ = ob og.dst _
        cases hd : og.dst with
        | none => rfl
        | some d =>
          show (tm.val d).bool? = (tm'.val d).bool?
          rw [h d (by unfold looksAt; refine List.mem_append.2 (.inl ?_); simp only [hg, ho, hd]; simp)]
    rw [this]

theorem putO_val {dst : Option Tmp} {z : AV} {tm tm' : Tm} (h : Tm.putO dst z tm = some tm') : tm'.n = tm.n ∧ (∀ d, dst = some d → tm'.val d = z) ∧ ∀ t, dst ≠ some t → tm'.val t = tm.val t := by
  cases dst with
  | none =>
    have h : some tm = some tm' := h
    cases h
    exact ⟨rfl, fun d hd => (by cases hd), fun _ _ => rfl⟩
  | some d =>
    have h : tm.put d z = some tm' := h
    obtain ⟨_, rfl⟩ := Tm.put_some h
    refine ⟨rfl, fun d' hd => ?_, fun t ht => ?_⟩
    · cases hd
      rw [Tm.val_eq]
      simp [Tr.get_set_same]
    · rw [Tm.val_eq, Tm.val_eq]
      have : d ≠ t := fun e => ht (by rw [e])
      simp [Tr.get_set_other _ _ this]

theorem putO_of {dst : Option Tmp} {z : AV} {tm tm' tm2 : Tm} (h : Tm.putO dst z tm = some tm') (hn : tm2.n = tm.n) : ∃ tm2', Tm.putO dst z tm2 = some tm2' := by
  cases dst with
  | none => exact ⟨tm2, rfl⟩
  | some d =>
    have h : tm.put d z = some tm' := h
    obtain ⟨hlt, _⟩ := Tm.put_some h
    refine ⟨⟨tm2.n, tm2.t.set d z⟩, ?_⟩
    cases tm2 with
    | mk n tr =>
      show sel (Nat.blt d n) (some (⟨n, tr.set d z⟩ : Tm)) (no "tmp") = _
      have hn : n = tm.n := hn
      have : Nat.blt d n = true := by rw [hn]; exact Nat.blt_eq ▸ hlt
      rw [this, sel_true]

theorem putO_lt {dst : Option Tmp} {z : AV} {tm tm' : Tm} {d : Tmp} (h : Tm.putO dst z tm = some tm') (hd : dst = some d) : d < tm.n := by
  subst hd
  have h : tm.put d z = some tm' := h
  exact (Tm.put_some h).1

theorem putO_mk {dst : Option Tmp} {z : AV} {tm : Tm} (h : ∀ d, dst = some d → d < tm.n) : ∃ tm', Tm.putO dst z tm = some tm' := by
  cases dst with
  | none => exact ⟨tm, rfl⟩
  | some d =>
    have hlt := h d rfl
    refine ⟨⟨tm.n, tm.t.set d z⟩, ?_⟩
    cases tm with
    | mk n tr =>
      show sel (Nat.blt d n) (some (⟨n, tr.set d z⟩ : Tm)) (no "tmp") = _
      have : Nat.blt d n = true := Nat.blt_eq ▸ hlt
      rw [this, sel_true]

/-- What an operation of class 0 or 1 gives. -/
def FloatCase (P : Program) (e : Env) (ops : Array Oper) (o : Oper) (tm : Tm) (W : AW) (z : AV) (W' : AW) : Prop :=
  (aWanted ops.toList tm o = false ∧ z = .undef ∧ W' = W) ∨
  (aWanted ops.toList tm o = true ∧ ((aDo o.op P e tm = .give (some z) ∧ W' = W) ∨ (∃ f, aDo o.op P e tm = .look f ∧ f W = some z ∧ W' = W) ∨
    (∃ b f, aDo o.op P e tm = .make (some (b, f)) ∧ z = f W.nxt ∧ W' = W.new b)))

theorem aOper_split {o : Oper} {s s' : St} {L : List Oper} (h : aOper P e L o s = some s') :
    ∃ z s1, sel (aWanted L s.tm o) (doIt (aDo o.op P e s.tm) s.tm s.ds s.W) (some (.undef, s)) = some (z, s1) ∧ fin o.dst z s1 = some s' := by
  obtain ⟨tm, ds, W⟩ := s
  exact ob2_some h

theorem aOper_join {o : Oper} {s s1 s' : St} {z : AV} {L : List Oper} (h1 : sel (aWanted L s.tm o) (doIt (aDo o.op P e s.tm) s.tm s.ds s.W) (some (.undef, s)) = some (z, s1)) (h2 : fin o.dst z s1 = some s') :
    aOper P e L o s = some s' := by
  obtain ⟨tm, ds, W⟩ := s
  show ob2 (sel (aWanted L tm o) (doIt (aDo o.op P e tm) tm ds W) (some (.undef, ⟨tm, ds, W⟩))) (fin o.dst) = some s'
  have h1 : sel (aWanted L tm o) (doIt (aDo o.op P e tm) tm ds W) (some (.undef, ⟨tm, ds, W⟩)) = some (z, s1) := h1
  rw [h1]
  exact h2

theorem fin_of {dst : Option Tmp} {z : AV} {s : St} {tm' : Tm} (h : Tm.putO dst z s.tm = some tm') : fin dst z s = some ⟨tm', s.ds, s.W⟩ := by
  obtain ⟨tm, ds, W⟩ := s
  show ob (Tm.putO dst z tm) (fun tm => some (St.mk tm ds W)) = _
  have h : Tm.putO dst z tm = some tm' := h
  rw [h]; rfl

theorem float_parts {o : Oper} {s s' : St} (h : aOper P e ops.toList o s = some s') (hc : opClass P o.op ≠ 2) :
    ∃ z, FloatCase P e ops o s.tm s.W z s'.W ∧ Tm.putO o.dst z s.tm = some s'.tm ∧ s'.ds = s.ds := by
  obtain ⟨z, s1, h1, h2⟩ := aOper_split h
  obtain ⟨tm', h3, rfl⟩ := fin_some h2
  refine ⟨z, ?_⟩
  cases hw : aWanted ops.toList s.tm o with
  | false =>
    rw [hw, sel_false] at h1
    cases h1
    exact ⟨.inl ⟨hw, rfl, rfl⟩, h3, rfl⟩
  | true =>
    rw [hw, sel_true] at h1
    cases hdo : aDo o.op P e s.tm with
    | give v =>
      rw [hdo] at h1
      obtain ⟨v', hv, h4⟩ := ob_some (show ob v _ = some (z, s1) from h1)
      cases h4
      subst hv
      exact ⟨.inr ⟨hw, .inl ⟨hdo, rfl⟩⟩, h3, rfl⟩
    | look f =>
      rw [hdo] at h1
      obtain ⟨v', hv, h4⟩ := ob_some (show ob (f s.W) _ = some (z, s1) from h1)
      cases h4
      exact ⟨.inr ⟨hw, .inr (.inl ⟨f, hdo, hv, rfl⟩)⟩, h3, rfl⟩
    | make m =>
      rw [hdo] at h1
      cases m with
      | none => cases h1
      | some p =>
        obtain ⟨b, f⟩ := p
        have h1 : some (f s.W.nxt, (⟨s.tm, s.ds, s.W.new b⟩ : St)) = some (z, s1) := h1
        cases h1
        exact ⟨.inr ⟨hw, .inr (.inr ⟨b, f, hdo, rfl, rfl⟩)⟩, h3, rfl⟩
    | deed f =>
      exfalso
      apply hc
      rw [← aDo_cls (e := e) (tm := s.tm), hdo]
      rfl

/-- What is known of an operation of class 0 or 1 that the abstract run has carried out, and the model's not yet. -/
def PendOk (P : Program) (e : Env) (ops : Array Oper) (φ : Phi) (s0 s : St) (blk : Option Nat) (i : Nat) (o : Oper) : Prop :=
  ∀ tm' : Tm, (∀ t ∈ looksAt ops.toList o, tm'.val t = mix ops (An P ops i) s.tm s0.tm t) →
    (aWanted ops.toList tm' o = false ∧ ∀ d, o.dst = some d → s.tm.val d = .undef) ∨
    (aWanted ops.toList tm' o = true ∧ ((∃ v, aDo o.op P e tm' = .give (some v) ∧ ∀ d, o.dst = some d → s.tm.val d = v) ∨
      (∃ b x f, blk = some b ∧ aDo o.op P e tm' = .make (some (x, f)) ∧ (∀ d, o.dst = some d → s.tm.val d = f b) ∧ s0.W.nxt ≤ b ∧ b < s.W.nxt ∧ s.W.at b = some x ∧ φ b = none) ∨
      (∃ f, aDo o.op P e tm' = .look f)))

structure Inv (P : Program) (e : Env) (ops : Array Oper) (φ0 : Phi) (s0 : St) (w0 : World) (s : St) (done settled : Nat) (E : Nat → Prop) (blk : Nat → Option Nat) (tmE : Tm) (φ : Phi) (a : Act) (w : World) : Prop where
  st : StRel φ ⟨tmE, s.ds, s.W⟩ a w
  step : Step φ0 s0.W w0 φ s.W w
  val : ∀ t, tmE.val t = mix ops E s.tm s0.tm t
  size : tmE.n = s.tm.n
  old : ∀ t, ¬ Wr ops (Dn done) t → s.tm.val t = s0.tm.val t
  sub : ∀ j, E j → tb done j = true
  closed : ∀ (j : Nat) (o : Oper) (ed : Edge), E j → ops[j]? = some o → ed ∈ o.after.toList → Region.binds .any ed = true → E ed.on
  anc : ∀ i, tb done i = true → ∀ j, tb (ancOf P ops.toList i) j = true → tb done j = true
  loud : ∀ (j : Nat) (o : Oper), tb done j = true → ops[j]? = some o → opClass P o.op = 2 → E j
  sett : ∀ j, tb settled j = true → E j
  inj : ∀ i j b, blk i = some b → blk j = some b → i = j
  lt : ∀ i b, blk i = some b → b < s.W.nxt
  pend : ∀ (i : Nat) (o : Oper), tb done i = true → ¬ E i → ops[i]? = some o → opClass P o.op ≠ 2 → PendOk P e ops φ s0 s (blk i) i o
  fits : ∀ (i : Nat) (o : Oper) (d : Tmp), tb done i = true → ops[i]? = some o → o.dst = some d → d < s.tm.n

variable {φ0 : Phi} {s0 : St} {w0 : World} {s s' : St} {done settled : Nat} {E : Nat → Prop} {blk : Nat → Option Nat} {tmE : Tm} {φ : Phi} {a : Act} {w : World}

theorem Wr.mono {E E' : Nat → Prop} {t : Tmp} (h : ∀ j, E j → E' j) (hw : Wr ops E t) : Wr ops E' t := by
  obtain ⟨j, o, h1, h2⟩ := hw
  exact ⟨j, o, h j h1, h2⟩

theorem opClass_le {op : Op} : opClass P op = 0 ∨ opClass P op = 1 ∨ opClass P op = 2 := by
  unfold opClass
  cases aDo op P env0 tm0 <;> simp [Do.cls]

/-- The abstract run goes ahead by an operation of class 0 or 1. -/
theorem Inv.float (g : Good P ops) (h : Inv P e ops φ0 s0 w0 s done settled E blk tmE φ a w) {i : Nat} {o : Oper} (hi : ops[i]? = some o) (hc : opClass P o.op ≠ 2) (hnd : tb done i = false)
    (hanc : ∀ j, tb (ancOf P ops.toList i) j = true → tb done j = true) (hx : aOper P e ops.toList o s = some s') :
    ∃ blk', Inv P e ops φ0 s0 w0 s' (Nat.lor done (bit i)) settled E blk' tmE φ a w := by
  obtain ⟨z, hfc, hput, hds⟩ := float_parts hx hc
  obtain ⟨hn, hpd, hpo⟩ := putO_val hput
  have hdone : ∀ j, tb (Nat.lor done (bit i)) j = true ↔ tb done j = true ∨ j = i := fun j => by
    rw [tb_or, tb_bit, Bool.or_eq_true, decide_eq_true_eq]; exact or_congr_right eq_comm
  -- slots that the operations that were carried out write are as they were
  have keep : ∀ t, Wr ops (Dn done) t → s'.tm.val t = s.tm.val t := by
    rintro t ⟨k, ok, hk, hok, hd⟩
    refine hpo t (fun hdi => ?_)
    have hne : k ≠ i := fun e => by subst e; rw [hk] at hnd; cases hnd
    exact (g.pair k i ok o t hok hi hne hd).1 hdi
  have keepE : ∀ t, mix ops E s'.tm s0.tm t = mix ops E s.tm s0.tm t := fun t => by
    by_cases hw : Wr ops E t
    · rw [mix_wr hw, mix_wr hw, keep t (hw.mono h.sub)]
    · rw [mix_not hw, mix_not hw]
  have keepA : ∀ j, tb done j = true → ∀ t, mix ops (An P ops j) s'.tm s0.tm t = mix ops (An P ops j) s.tm s0.tm t := fun j hj t => by
    by_cases hw : Wr ops (An P ops j) t
    · rw [mix_wr hw, mix_wr hw, keep t (hw.mono (h.anc j hj))]
    · rw [mix_not hw, mix_not hw]
  -- the abstract heap grows at most
  have hW : s.W.nxt ≤ s'.W.nxt ∧ (∀ b, b < s.W.nxt → s'.W.at b = s.W.at b) ∧ Sim φ s'.W w ∧ Step φ s.W w φ s'.W w := by
    have same : s'.W = s.W → s.W.nxt ≤ s'.W.nxt ∧ (∀ b, b < s.W.nxt → s'.W.at b = s.W.at b) ∧ Sim φ s'.W w ∧ Step φ s.W w φ s'.W w := fun e => by
      rw [e]; exact ⟨Nat.le_refl _, fun _ _ => rfl, h.st.sim, Step.refl _ _ _⟩
    rcases hfc with ⟨_, _, e⟩ | ⟨_, ⟨_, e⟩ | ⟨f, _, _, e⟩ | ⟨x, f, _, _, e⟩⟩
    · exact same e
    · exact same e
    · exact same e
    · obtain ⟨_, h2, h3⟩ := h.st.sim.newA x
      rw [e]
      exact ⟨by rw [AW.nxt_new]; omega, fun b hb => AW.at_new_other _ _ (by omega), h2, h3⟩
  obtain ⟨hW1, hW2, hW3, hW4⟩ := hW
  -- the new block's number
  have hblk : ∃ nb : Option Nat, (∀ b, nb = some b → b = s.W.nxt ∧ s.W.nxt < s'.W.nxt) ∧ (¬ E i → PendOk P e ops φ s0 s' nb i o) := by
    have agree : ∀ tm' : Tm, (∀ t ∈ looksAt ops.toList o, tm'.val t = mix ops (An P ops i) s'.tm s0.tm t) → ∀ t ∈ looksAt ops.toList o, s.tm.val t = tm'.val t := by
      intro tm' hag t ht
      rw [hag t ht]
      by_cases hw : Wr ops (An P ops i) t
      · rw [mix_wr hw, keep t (hw.mono hanc)]
      · rw [mix_not hw]
        refine h.old t ?_
        rintro ⟨k, ok, hk, hok, hd⟩
        have hne : k ≠ i := fun e => by subst e; have hk : tb done k = true := hk; rw [hk] at hnd; cases hnd
        rcases (g.pair k i ok o t hok hi hne hd).2 ht with h1 | h1
        · exact hw ⟨k, ok, h1, hok, hd⟩
        · have := h.anc k hk i h1
          rw [this] at hnd; cases hnd
    rcases hfc with ⟨h1, h2, ee⟩ | ⟨h1, ⟨h2, ee⟩ | ⟨f, h2, h3, ee⟩ | ⟨x, f, h2, h3, ee⟩⟩
    · refine ⟨none, fun b hb => (by cases hb), fun _ tm' hag => .inl ⟨?_, fun d hd => by rw [hpd d hd, h2]⟩⟩
      rw [← wanted_congr (agree tm' hag)]; exact h1
    · refine ⟨none, fun b hb => (by cases hb), fun _ tm' hag => .inr ⟨?_, .inl ⟨z, ?_, hpd⟩⟩⟩
      · rw [← wanted_congr (agree tm' hag)]; exact h1
      · rw [← do_congr (agree tm' hag)]; exact h2
    · refine ⟨none, fun b hb => (by cases hb), fun _ tm' hag => .inr ⟨?_, .inr (.inr ⟨f, ?_⟩)⟩⟩
      · rw [← wanted_congr (agree tm' hag)]; exact h1
      · rw [← do_congr (agree tm' hag)]; exact h2
    · refine ⟨some s.W.nxt, fun b hb => ?_, fun _ tm' hag => .inr ⟨?_, .inr (.inl ⟨s.W.nxt, x, f, rfl, ?_, fun d hd => by rw [hpd d hd, h3], h.step.nxt, ?_, ?_, ?_⟩)⟩⟩
      · cases hb; exact ⟨rfl, by rw [ee, AW.nxt_new]; omega⟩
      · rw [← wanted_congr (agree tm' hag)]; exact h1
      · rw [← do_congr (agree tm' hag)]; exact h2
      · rw [ee, AW.nxt_new]; omega
      · rw [ee]; exact AW.at_new_same _ _
      · exact (h.st.sim.newA x).1
  obtain ⟨nb, hnb1, hnb2⟩ := hblk
  have hE : ¬ E i := fun he => by have := h.sub i he; rw [this] at hnd; cases hnd
  refine ⟨fun j => if j = i then nb else blk j, ?_⟩
  constructor
  case st =>
    refine ⟨h.st.tm, ?_, hW3⟩
    show dsRel φ s'.ds a.defers
    rw [hds]; exact h.st.ds
  case step => exact h.step.trans hW4
  case val => exact fun t => by rw [h.val t, keepE t]
  case size => rw [h.size, hn]
  case old =>
    intro t ht
    have h1 : ¬ Wr ops (Dn done) t := fun hw => ht (hw.mono fun j hj => (hdone j).2 (.inl hj))
    rw [hpo t (fun hd => ht ⟨i, o, (hdone i).2 (.inr rfl), hi, hd⟩), h.old t h1]
  case sub => exact fun j hj => (hdone j).2 (.inl (h.sub j hj))
  case closed => exact h.closed
  case anc =>
    intro j hj k hk
    rw [hdone]
    rcases (hdone j).1 hj with hj | rfl
    · exact .inl (h.anc j hj k hk)
    · exact .inl (hanc k hk)
  case loud =>
    intro j oj hj hoj hcl
    rcases (hdone j).1 hj with hj | rfl
    · exact h.loud j oj hj hoj hcl
    · rw [hi] at hoj; cases hoj; exact absurd hcl hc
  case sett => exact h.sett
  case inj =>
    intro j k b hj hk
    by_cases e1 : j = i <;> by_cases e2 : k = i
    · rw [e1, e2]
    · rw [if_pos e1] at hj; rw [if_neg e2] at hk
      have := (hnb1 b hj).1; have := h.lt k b hk; omega
    · rw [if_neg e1] at hj; rw [if_pos e2] at hk
      have := (hnb1 b hk).1; have := h.lt j b hj; omega
    · rw [if_neg e1] at hj; rw [if_neg e2] at hk; exact h.inj j k b hj hk
  case lt =>
    intro j b hj
    by_cases e1 : j = i
    · rw [if_pos e1] at hj; obtain ⟨h1, h2⟩ := hnb1 b hj; omega
    · rw [if_neg e1] at hj; have := h.lt j b hj; omega
  case pend =>
    intro j oj hj hEj hoj hcl
    by_cases e1 : j = i
    · subst e1
      rw [hi] at hoj; cases hoj
      rw [if_pos rfl]
      exact hnb2 hE
    · have hj' : tb done j = true := ((hdone j).1 hj).resolve_right e1
      rw [if_neg e1]
      intro tm' hag
      have hd : ∀ d, oj.dst = some d → s'.tm.val d = s.tm.val d := fun d hd => keep d ⟨j, oj, hj', hoj, hd⟩
      rcases h.pend j oj hj' hEj hoj hcl tm' (fun t ht => by rw [hag t ht, keepA j hj' t]) with ⟨h1, h2⟩ | ⟨h1, ⟨v, h2, h3⟩ | ⟨b, x, f, h2, h3, h4, h5, h6, h7, h8⟩ | ⟨f, h2⟩⟩
      · exact .inl ⟨h1, fun d hd' => by rw [hd d hd', h2 d hd']⟩
      · exact .inr ⟨h1, .inl ⟨v, h2, fun d hd' => by rw [hd d hd', h3 d hd']⟩⟩
      · exact .inr ⟨h1, .inr (.inl ⟨b, x, f, h2, h3, fun d hd' => by rw [hd d hd', h4 d hd'], h5, by omega, by rw [hW2 b h6]; exact h7, h8⟩)⟩
      · exact .inr ⟨h1, .inr (.inr ⟨f, h2⟩)⟩
  case fits =>
    intro j oj d hj hoj hd
    rw [hn]
    rcases (hdone j).1 hj with hj | rfl
    · exact h.fits j oj d hj hoj hd
    · rw [hi] at hoj; cases hoj
      exact putO_lt hput hd
end
end Go.Ab
