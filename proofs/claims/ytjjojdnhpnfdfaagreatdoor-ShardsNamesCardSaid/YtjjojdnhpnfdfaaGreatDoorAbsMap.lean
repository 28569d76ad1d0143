import Derived.Test.YtjjojdnhpnfdfaaGreatDoorAbsLook
set_option linter.all false
/-
  MAPS: WHOSE KEYS HOLD NO ADDRESS.
-/
namespace Go.Ab
open Go
section
variable {P : Program} {φ : Phi} {W : AW} {w : World}

theorem pureRun_bind {α β : Type} : ∀ {s : Sem α} {f : α → Sem β} {b : β}, pureRun P (s >>= f) = some b → ∃ a, pureRun P s = some a ∧ pureRun P (f a) = some b := by
  intro s
  induction s with
  | pure a => intro f b h; exact ⟨a, rfl, h⟩
  | program k ih => intro f b h; exact ih P (f := f) h
  | mark m k ih => intro f b h; exact ih (f := f) h
  | _ => intro f b h; simp [bind, Sem.bind, pureRun] at h

theorem pureRun_pure {α : Type} (a : α) : pureRun P (pure a) = some a := rfl

/-! ### Entries -/
theorem entRel_length : ∀ {es : List (Value × AV × Nat)} {es' : List MapEntry}, entRel φ es es' → es'.length = es.length
  | [], [], _ => rfl
  | _ :: _, _ :: _, ⟨_, _, _, h⟩ => by simp [entRel_length h]

/-- The same keys. -/
def keysEq : List MapEntry → List MapEntry → Prop
  | [], [] => True
  | a :: r, b :: s => b.key = a.key ∧ keysEq r s
  | _, _ => False

theorem keysEq_of_entRel : ∀ {es : List (Value × AV × Nat)} {es' : List MapEntry}, entRel φ es es' → keysEq (asEntries es) es'
  | [], [], _ => trivial
  | _ :: _, _ :: _, ⟨h1, _, _, h⟩ => ⟨h1, keysEq_of_entRel h⟩

/-- What is found, with the value that lies there. -/
def foundAt (es : List MapEntry) (base : Nat) (r : Option (Nat × Value)) : Option (Nat × Value) := r.bind fun p => (es[p.1 - base]?).map fun e => (p.1, e.val)

theorem findNow_keys (kind : TypeDesc) (k : Value) : ∀ {a b : List MapEntry} (i : Nat) {r : Option (Nat × Value)}, keysEq a b → Instr.findNow kind k a i = some r →
    (∀ p, r = some p → i ≤ p.1 ∧ p.1 - i < b.length) ∧ Instr.findNow kind k b i = some (foundAt b i r)
  | [], [], i, r, _, h => by simp [Instr.findNow] at h; subst h; exact ⟨fun p e => (by cases e), rfl⟩
  | x :: a, y :: b, i, r, ⟨h1, h2⟩, h => by
    simp only [Instr.findNow] at h ⊢
    rw [h1]
    cases hs : Instr.sameNow kind k x.key with
    | none => rw [hs] at h; cases h
    | some t =>
      rw [hs] at h
      cases t with
      | true =>
        simp only [Option.some.injEq] at h
        subst h
        refine ⟨fun p e => ?_, ?_⟩
        · cases e; simp
        · simp [foundAt]
      | false =>
        obtain ⟨g1, g2⟩ := findNow_keys kind k (i + 1) h2 h
        refine ⟨fun p e => ?_, ?_⟩
        · obtain ⟨c1, c2⟩ := g1 p e
          simp only [List.length_cons]
          omega
        · simp only at g2 ⊢
          rw [g2]
          cases r with
          | none => rfl
          | some p =>
            obtain ⟨c1, c2⟩ := g1 p rfl
            have : p.1 - i = (p.1 - (i + 1)) + 1 := by omega
            simp [foundAt, this]

theorem findNow_none (kind : TypeDesc) (k : Value) : ∀ {a b : List MapEntry} (i : Nat), keysEq a b → Instr.findNow kind k a i = none → Instr.findNow kind k b i = none
  | [], [], i, _, h => by simp [Instr.findNow] at h
  | x :: a, y :: b, i, ⟨h1, h2⟩, h => by
    simp only [Instr.findNow] at h ⊢
    rw [h1]
    cases hs : Instr.sameNow kind k x.key with
    | none => rfl
    | some t =>
      rw [hs] at h
      cases t with
      | true => cases h
      | false => exact findNow_none kind k (i + 1) h2 h

theorem findAsking_keys (kt : TypeId) (k : Value) : ∀ {a b : List MapEntry} (i : Nat) {r : Option (Nat × Value)}, keysEq a b → pureRun P (Instr.findAsking kt k a i) = some r →
    (∀ p, r = some p → i ≤ p.1 ∧ p.1 - i < b.length) ∧ ∀ w, (Instr.findAsking kt k b i).run P w = .ok (foundAt b i r) w
  | [], [], i, r, _, h => by
    simp only [Instr.findAsking, pureRun_pure, Option.some.injEq] at h
    subst h
    exact ⟨fun p e => (by cases e), fun w => rfl⟩
  | x :: a, y :: b, i, r, ⟨h1, h2⟩, h => by
    simp only [Instr.findAsking] at h
    obtain ⟨t, ht, h3⟩ := pureRun_bind h
    have hr := pureRun_run ht
    cases t with
    | true =>
      simp only [if_true, pureRun_pure, Option.some.injEq] at h3
      subst h3
      refine ⟨fun p e => ?_, fun w => ?_⟩
      · cases e; simp
      · simp [Instr.findAsking, h1, hr w, foundAt]
    | false =>
      simp only [Bool.false_eq_true, if_false] at h3
      obtain ⟨g1, g2⟩ := findAsking_keys kt k (i + 1) h2 h3
      refine ⟨fun p e => ?_, fun w => ?_⟩
      · obtain ⟨c1, c2⟩ := g1 p e
        simp only [List.length_cons]
        omega
      · simp only [Instr.findAsking, Sem.run_bind, h1, hr w, Result.andThen_ok, Bool.false_eq_true, if_false, g2 w]
        cases r with
        | none => rfl
        | some p =>
          obtain ⟨c1, c2⟩ := g1 p rfl
          have : p.1 - i = (p.1 - (i + 1)) + 1 := by omega
          simp [foundAt, this]

theorem findKey_keys {kt : TypeId} {k : Value} {a b : List MapEntry} {r : Option (Nat × Value)} (hk : keysEq a b) (h : pureRun P (Instr.findKey kt k a) = some r) :
    (∀ p, r = some p → p.1 < b.length) ∧ ∀ w, (Instr.findKey kt k b).run P w = .ok (foundAt b 0 r) w := by
  unfold Instr.findKey at h
  obtain ⟨d, hd, h1⟩ := pureRun_bind h
  have hr := pureRun_run hd
  cases hf : Instr.findNow d k a 0 with
  | some q =>
    rw [hf] at h1
    simp only [pureRun_pure, Option.some.injEq] at h1
    subst h1
    obtain ⟨g1, g2⟩ := findNow_keys d k 0 hk hf
    refine ⟨fun p e => by have := (g1 p e).2; simpa using this, fun w => ?_⟩
    simp [Instr.findKey, hr w, g2]
  | none =>
    rw [hf] at h1
    obtain ⟨g1, g2⟩ := findAsking_keys kt k 0 hk h1
    refine ⟨fun p e => by have := (g1 p e).2; simpa using this, fun w => ?_⟩
    simp [Instr.findKey, hr w, findNow_none d k 0 hk hf, g2 w]

/-- What is found where. -/
theorem aFind_ok {empty : Bool} {kt : TypeId} {k : Value} {es : List (Value × AV × Nat)} {es' : List MapEntry} {r : Option Nat} (h : aFind P empty kt k es = some r) (he : entRel φ es es') :
    (∀ w, (Instr.checkKey empty 10000 kt k).run P w = .ok () w) ∧
      ((r = none ∧ ∀ w, (Instr.findKey kt k es').run P w = .ok none w) ∨ ∃ i e, r = some i ∧ es'[i]? = some e ∧ ∀ w, (Instr.findKey kt k es').run P w = .ok (some (i, e.val)) w) := by
  obtain ⟨u, hu, h1⟩ := ob_some h
  obtain ⟨q, hq, h2⟩ := ob_some h1
  simp only [Option.some.injEq] at h2
  subst h2
  refine ⟨fun w => pureRun_run hu w, ?_⟩
  obtain ⟨g1, g2⟩ := findKey_keys (keysEq_of_entRel he) hq
  cases q with
  | none => exact .inl ⟨rfl, fun w => g2 w⟩
  | some p =>
    have hlt := g1 p rfl
    refine .inr ⟨p.1, es'[p.1], rfl, List.getElem?_eq_getElem hlt, fun w => ?_⟩
    rw [g2 w]
    simp [foundAt, hlt]

theorem entRel_get : ∀ {es : List (Value × AV × Nat)} {es' : List MapEntry}, entRel φ es es' → ∀ {i : Nat} {e : Value × AV × Nat}, es[i]? = some e → ∃ m, es'[i]? = some m ∧ m.key = e.1 ∧ e.2.1.rel φ m.val ∧ m.born = e.2.2
  | _ :: _, m :: _, ⟨h1, h2, h3, _⟩, 0, e, h => by simp at h; subst h; exact ⟨m, rfl, h1, h2, h3⟩
  | _ :: _, _ :: _, ⟨_, _, _, h4⟩, i + 1, e, h => by simpa using entRel_get h4 (by simpa using h)

theorem Sim.map (s : Sim φ W w) {r : Nat} {i : Img} {es : List (Value × AV × Nat)} {clock : Nat} (hb : φ r = some i) (ho : W.at r = some (.map es clock)) :
    ∃ es' : Array MapEntry, w.heap[i.cb]? = some (.map es' clock) ∧ entRel φ es es'.toList := by
  obtain ⟨_, o, h1, h2⟩ := s.obj r i hb
  rw [ho] at h1
  cases h1
  exact h2

theorem run_getMap {r : Nat} {es : Array MapEntry} {clock : Nat} (h : w.heap[r]? = some (.map es clock)) : (getObj r).run P w = .ok (.map es clock) w := by simp [getObj, Sem.run, h]
theorem run_setMap {r : Nat} {es : Array MapEntry} {clock : Nat} (o : Obj) (h : w.heap[r]? = some (.map es clock)) : (setObj r o).run P w = .ok () { w with heap := w.heap.setIfInBounds r o } := by simp [setObj, Sem.run, h]

theorem mapOf_some {t : TypeId} {ke : TypeId × TypeId} (h : mapOf P t = some ke) : undO P t = some (.map ke.1 ke.2) := by
  unfold mapOf at h
  split at h
  · simp at h; subst h; assumption
  · cases h

theorem mapRef_ok (s : Sim φ W w) {x : AV} {v : Value} {es : List (Value × AV × Nat)} (h : mapRef W x = some es) (hx : x.rel φ v) :
    (v = .map none ∧ es = []) ∨ ∃ r es' clock, v = .map (some r) ∧ (getObj r).run P w = .ok (.map es' clock) w ∧ entRel φ es es'.toList := by
  unfold mapRef at h
  split at h
  · rename_i r
    split at h
    · rename_i es1 clock ho
      simp only [Option.some.injEq] at h
      subst h
      obtain ⟨i, hi, rfl⟩ := hx
      obtain ⟨es', h1, h2⟩ := s.map hi ho
      exact .inr ⟨i.cb, es', clock, rfl, run_getMap h1, h2⟩
    · cases h
  · cases h
    cases lit_rel hx
    exact .inl ⟨rfl, rfl⟩
  · cases h

theorem isEmpty_eq {es : List (Value × AV × Nat)} {es' : Array MapEntry} (h : entRel φ es es'.toList) : es'.isEmpty = es.isEmpty := by
  have := entRel_length h
  have e : es'.size = es.length := by simpa using this
  cases es with
  | nil => simp at e; simp [e]
  | cons a l =>
    cases hh : es'.isEmpty
    · rfl
    · rw [Array.isEmpty_iff] at hh; subst hh; simp at e

theorem aLookup_ok (s : Sim φ W w) {t : TypeId} {x ix z : AV} {v iv : Value} {ok : Bool} (h : aLookup P W t x ix ok = some z) (hx : x.rel φ v) (hix : ix.rel φ iv) :
    ∃ v', (Instr.lookup t v iv ok).run P w = .ok v' w ∧ z.rel φ v' := by
  obtain ⟨ke, hke, h1⟩ := ob_some h
  obtain ⟨k, hk, h2⟩ := ob_some h1
  obtain ⟨es, hes, h3⟩ := ob_some h2
  obtain ⟨r, hr, h4⟩ := ob_some h3
  have hu := mapOf_some hke
  have hiv := AV.conc_rel ix k iv hk hix
  subst hiv
  have hold : ∀ {a : AV} {u : Value} {b : Bool}, a.rel φ u → ((if ok then AV.tuple [a, .lit (.bool b)] else a)).rel φ (if ok then .tuple #[u, .bool b] else u) := by
    intro a u b hr
    cases ok
    · exact hr
    · exact ⟨_, rfl, hr, rfl, trivial⟩
  have main : ∀ (es' : Array MapEntry), entRel φ es es'.toList → ∃ v', (do
      Instr.checkKey es'.isEmpty 10000 ke.1 iv
      let (v, b) ← match ← Instr.findKey ke.1 iv es'.toList with
        | some (_, v) => pure (v, true)
        | none => pure (← zeroValue ke.2, false)
      pure (if ok then .tuple #[v, .bool b] else v) : Sem Value).run P w = .ok v' w ∧ z.rel φ v' := by
    intro es' he
    obtain ⟨g1, g2⟩ := aFind_ok hr he
    rw [isEmpty_eq he]
    simp only [Sem.run_bind, g1 w, Result.andThen_ok]
    rcases g2 with ⟨rfl, g⟩ | ⟨i, e, rfl, hi, g⟩
    · obtain ⟨zv, hz, h5⟩ := ob_some h4
      simp only [Option.some.injEq] at h5
      subst h5
      refine ⟨_, ?_, hold rfl⟩
      simp [g w, run_zero hz]
    · obtain ⟨ea, hea, h5⟩ := ob_some h4
      simp only [Option.some.injEq] at h5
      subst h5
      obtain ⟨m, hm, _, hv, _⟩ := entRel_get he hea
      rw [hi] at hm
      cases hm
      refine ⟨_, ?_, hold hv⟩
      simp [g w]
  rcases mapRef_ok (P := P) s hes hx with ⟨rfl, rfl⟩ | ⟨b, es', clock, rfl, hg, he⟩
  · obtain ⟨v', hv, hz⟩ := main #[] trivial
    refine ⟨v', ?_, hz⟩
    rw [← hv]
    simp only [Instr.lookup, Sem.run_bind, run_und hu, Result.andThen_ok, Sem.run_pure]
    rfl
  · obtain ⟨v', hv, hz⟩ := main es' he
    refine ⟨v', ?_, hz⟩
    rw [← hv]
    simp only [Instr.lookup, Sem.run_bind, run_und hu, Result.andThen_ok, Sem.run_pure, hg]
    rfl

theorem aLen_ok (s : Sim φ W w) {t : TypeId} {x z : AV} {v : Value} {ts : Array TypeId} {ty : TypeId} {args : Array Value} (h : aLen P W t x = some z) (hx : x.rel φ v) (ht : ts[0]? = some t) (ha : args[0]? = some v) :
    ∃ v', (Builtin.len_ ts ty args).run P w = .ok v' w ∧ z.rel φ v' := by
  unfold aLen at h
  split at h
  · rename_i s hu
    cases h
    cases lit_rel hx
    exact ⟨_, by simp [Builtin.len_, ht, ha, run_und hu], rfl⟩
  · rename_i n e hu
    cases h
    exact ⟨goInt n, by simp [Builtin.len_, ht, ha, run_und hu], rfl⟩
  · rename_i e b off n cap sz hu
    cases h
    obtain ⟨i, y, cap', hi, rfl, _⟩ := hx
    exact ⟨goInt n, by simp [Builtin.len_, ht, ha, run_und hu], rfl⟩
  · rename_i e a n cap hu
    cases h
    cases lit_rel hx
    exact ⟨goInt n, by simp [Builtin.len_, ht, ha, run_und hu], rfl⟩
  · rename_i k e hu
    cases h
    cases lit_rel hx
    exact ⟨_, by simp [Builtin.len_, ht, ha, run_und hu], rfl⟩
  · rename_i k e r hu
    split at h
    · rename_i es clock ho
      cases h
      obtain ⟨i, hi, rfl⟩ := hx
      obtain ⟨es', h1, h2⟩ := s.map hi ho
      refine ⟨goInt es'.size, by simp [Builtin.len_, ht, ha, run_und hu, run_getMap h1], ?_⟩
      have := entRel_length h2
      have e : es'.size = es.length := by simpa using this
      rw [e]
      rfl
    · cases h
  · rename_i arr hu
    split at h
    · rename_i n e hu2
      cases h
      exact ⟨goInt n, by simp [Builtin.len_, ht, ha, run_und hu, run_und hu2], rfl⟩
    · cases h
  · cases h
end
end Go.Ab
