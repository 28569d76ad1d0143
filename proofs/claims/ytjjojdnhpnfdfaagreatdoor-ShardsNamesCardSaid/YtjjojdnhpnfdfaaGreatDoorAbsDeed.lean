import Derived.Test.YtjjojdnhpnfdfaaGreatDoorAbsMap
set_option linter.all false
/-
  DEEDS: OPERATIONS THAT TURN MEMORY.
-/
namespace Go.Ab
open Go
section
variable {P : Program} {φ : Phi} {W W' : AW} {w : World}

/-- A run that answers, and how the worlds stand to one another behind it. -/
def DeedOk (P : Program) (φ : Phi) (W : AW) (w : World) (W' : AW) (z : AV) (s : Sem Value) : Prop :=
  ∃ φ' v w', s.run P w = .ok v w' ∧ Sim φ' W' w' ∧ Step φ W w φ' W' w' ∧ z.rel φ' v
def UnitOk (P : Program) (φ : Phi) (W : AW) (w : World) (W' : AW) (s : Sem Unit) : Prop :=
  ∃ φ' w', s.run P w = .ok () w' ∧ Sim φ' W' w' ∧ Step φ W w φ' W' w'

theorem aStore_ok (s : Sim φ W w) {t : TypeId} {a x : AV} {v u : Value} (h : aStore P W t a x = some W') (ha : a.rel φ v) (hx : x.rel φ u) : UnitOk P φ W w W' (Instr.storeAt t v u) := by
  obtain ⟨p, hp, h1⟩ := ob_some h
  obtain ⟨n, hn, h2⟩ := ob_some h1
  obtain ⟨hl, h3⟩ := sel_some h2 rfl
  have hl : x.cells.length = n := Nat.eq_of_beq_eq_true hl
  rw [AV.ptr?_some hp] at ha
  obtain ⟨i, hi, rfl⟩ := ha
  have hc := AV.cells_rel hx
  obtain ⟨w', hrun, s', t'⟩ := s.write (P := P) hi hc h3
  have hlen := relL_length hc
  have hsz : u.cells.size = n := by rw [← hl, ← hlen]; simp
  refine ⟨φ, w', ?_, s', t'⟩
  simp [Instr.storeAt, Instr.sureAddr, storeVar, run_size hn, hsz, hrun]

/-! ### Maps -/
theorem entRel_append : ∀ {a b : List (Value × AV × Nat)} {c d : List MapEntry}, entRel φ a c → entRel φ b d → entRel φ (a ++ b) (c ++ d)
  | [], _, [], _, _, h => h
  | _ :: _, _, _ :: _, _, ⟨h1, h2, h3, h4⟩, h => ⟨h1, h2, h3, entRel_append h4 h⟩

theorem entRel_set {k : Value} {x : AV} {u : Value} {f : MapEntry → MapEntry} : ∀ {a : List (Value × AV × Nat)} {c : List MapEntry} {i : Nat} {e : Value × AV × Nat}, entRel φ a c → a[i]? = some e → x.rel φ u →
    (∀ m : MapEntry, f m = { m with key := k, val := u }) → entRel φ (a.set i (k, x, e.2.2)) (c.modify i f)
  | e0 :: a, m :: c, 0, e, ⟨_, _, h3, h4⟩, he, hx, hf => by
    simp at he
    subst he
    rw [List.set_cons_zero]
    show entRel φ _ (f m :: c)
    rw [hf]
    exact ⟨rfl, hx, h3, h4⟩
  | e0 :: a, m :: c, i + 1, e, ⟨h1, h2, h3, h4⟩, he, hx, hf => by
    rw [List.set_cons_succ]
    exact ⟨h1, h2, h3, entRel_set h4 (by simpa using he) hx hf⟩

theorem entRel_erase : ∀ {a : List (Value × AV × Nat)} {c : List MapEntry} (i : Nat), entRel φ a c → entRel φ (a.eraseIdx i) (c.eraseIdx i)
  | [], [], _, _ => trivial
  | _ :: _, _ :: _, 0, ⟨_, _, _, h4⟩ => h4
  | _ :: _, _ :: _, i + 1, ⟨h1, h2, h3, h4⟩ => ⟨h1, h2, h3, entRel_erase i h4⟩

theorem Sim.setMap (s : Sim φ W w) {r : Nat} {i : Img} {es : List (Value × AV × Nat)} {clock : Nat} (hb : φ r = some i) (ho : W.at r = some (.map es clock)) {es1 : List (Value × AV × Nat)} {c1 : Nat} {es2 : Array MapEntry}
    (hr : entRel φ es1 es2.toList) : Sim φ (W.put r (.map es1 c1)) { w with heap := w.heap.setIfInBounds i.cb (.map es2 c1) } ∧ Step φ W w φ (W.put r (.map es1 c1)) { w with heap := w.heap.setIfInBounds i.cb (.map es2 c1) } := by
  obtain ⟨es', h1, _⟩ := s.map hb ho
  have hlt := (Array.getElem?_eq_some_iff.1 h1).1
  exact s.turn hb ho rfl (fun k hk => by simp [Array.getElem?_setIfInBounds_ne (Ne.symm hk)]) (by simp) rfl rfl rfl ⟨es2, by simp [hlt], hr⟩

theorem aMapUpdate_ok (s : Sim φ W w) {t : TypeId} {m key x : AV} {v k u : Value} (h : aMapUpdate P W t m key x = some W') (hm : m.rel φ v) (hk : key.rel φ k) (hx : x.rel φ u) :
    UnitOk P φ W w W' (Instr.mapUpdate t v k u) := by
  unfold aMapUpdate at h
  split at h
  · rename_i r
    split at h
    · rename_i es clock ho
      obtain ⟨ke, hke, h1⟩ := ob_some h
      obtain ⟨kv, hkv, h2⟩ := ob_some h1
      obtain ⟨f, hf, h3⟩ := ob_some h2
      have hu := mapOf_some hke
      have hkk := AV.conc_rel key kv k hkv hk
      subst hkk
      obtain ⟨i, hi, rfl⟩ := hm
      obtain ⟨es', hes, her⟩ := s.map hi ho
      obtain ⟨g1, g2⟩ := aFind_ok hf her
      rcases g2 with ⟨rfl, g⟩ | ⟨j, e, rfl, hj, g⟩
      · simp only [Option.some.injEq] at h3
        subst h3
        obtain ⟨s', t'⟩ := s.setMap hi ho (c1 := clock + 1) (es1 := es ++ [(k, x, clock)]) (es2 := es'.push { key := k, val := u, born := clock }) (by
          rw [Array.toList_push]; exact entRel_append her ⟨rfl, hx, rfl, trivial⟩)
        refine ⟨φ, _, ?_, s', t'⟩
        simp only [Instr.mapUpdate, Sem.run_bind, run_und hu, Result.andThen_ok, run_getMap hes, g1 w, g w, run_setMap _ hes]
      · obtain ⟨e', he', h4⟩ := ob_some h3
        obtain ⟨k2, hk2, h5⟩ := ob_some h4
        simp only [Option.some.injEq] at h5
        subst h5
        obtain ⟨m, hm, hkey, _, _⟩ := entRel_get her he'
        rw [hj] at hm
        cases hm
        have hst := pureRun_run hk2
        obtain ⟨s', t'⟩ := s.setMap hi ho (c1 := clock) (es1 := es.set j (k2, x, e'.2.2)) (es2 := es'.modify j fun e => { e with key := k2, val := u }) (by
          rw [Array.toList_modify]; exact entRel_set her he' hx (fun _ => rfl))
        refine ⟨φ, _, ?_, s', t'⟩
        have hj' : es'[j]? = some e := by simpa using hj
        simp only [Instr.mapUpdate, Sem.run_bind, run_und hu, Result.andThen_ok, run_getMap hes, g1 w, g w, hj', Option.map_some, Option.getD_some, hkey, hst w, run_setMap _ hes]
    · cases h
  · cases h

theorem setSame {w : World} {b : Nat} {o : Obj} (h : w.heap[b]? = some o) : ({ w with heap := w.heap.setIfInBounds b o } : World) = w := by
  have : w.heap.setIfInBounds b o = w.heap := by
    apply Array.ext_getElem?
    intro k
    by_cases e : b = k
    · subst e
      have hlt := (Array.getElem?_eq_some_iff.1 h).1
      rw [h]; simp [hlt]
    · simp [Array.getElem?_setIfInBounds_ne e]
  rw [this]

theorem aDelete_ok (s : Sim φ W w) {t : TypeId} {m key : AV} {v k : Value} {ts : Array TypeId} {ty : TypeId} {args : Array Value} (h : aDelete P W t m key = some W') (hm : m.rel φ v) (hk : key.rel φ k)
    (ht : ts[0]? = some t) (ha : args[0]? = some v) (hb : args[1]? = some k) : DeedOk P φ W w W' .undef (Builtin.delete_ ts ty args) := by
  obtain ⟨ke, hke, h1⟩ := ob_some h
  obtain ⟨kv, hkv, h2⟩ := ob_some h1
  have hu := mapOf_some hke
  have hkk := AV.conc_rel key kv k hkv hk
  subst hkk
  split at h2
  · obtain ⟨u, hc, h3⟩ := ob_some h2
    simp only [Option.some.injEq] at h3
    subst h3
    cases lit_rel hm
    refine ⟨φ, undef, w, ?_, s, .refl _ _ _, rfl⟩
    simp only [Builtin.delete_, ht, ha, hb, Sem.run_bind, run_und hu, Result.andThen_ok, pureRun_run hc w]
    rfl
  · rename_i r
    split at h2
    · rename_i es clock ho
      obtain ⟨f, hf, h3⟩ := ob_some h2
      obtain ⟨i, hi, rfl⟩ := hm
      obtain ⟨es', hes, her⟩ := s.map hi ho
      obtain ⟨g1, g2⟩ := aFind_ok hf her
      have hemp := isEmpty_eq her
      rcases g2 with ⟨rfl, g⟩ | ⟨j, e, rfl, hj, g⟩
      · simp only [Option.some.injEq] at h3
        subst h3
        refine ⟨φ, undef, w, ?_, s, .refl _ _ _, rfl⟩
        simp only [Builtin.delete_, ht, ha, hb, Sem.run_bind, run_und hu, Result.andThen_ok, run_getMap hes, hemp, g1 w, g w, run_setMap _ hes, setSame hes]
        rfl
      · simp only [Option.some.injEq] at h3
        subst h3
        have hjl : j < es'.size := by have := (List.getElem?_eq_some_iff.1 hj).1; simpa using this
        obtain ⟨s', t'⟩ := s.setMap hi ho (c1 := clock) (es1 := es.eraseIdx j) (es2 := es'.eraseIdxIfInBounds j) (by
          rw [Array.eraseIdxIfInBounds, dif_pos hjl, Array.toList_eraseIdx]; exact entRel_erase j her)
        refine ⟨φ, undef, _, ?_, s', t', rfl⟩
        simp only [Builtin.delete_, ht, ha, hb, Sem.run_bind, run_und hu, Result.andThen_ok, run_getMap hes, hemp, g1 w, g w, run_setMap _ hes]
        rfl
    · cases h2
  · cases h2

/-! ### Iterators -/
theorem aRange_ok (s : Sim φ W w) {t : TypeId} {x z : AV} {v : Value} (h : aRange P W t x = some (z, W')) (hx : x.rel φ v) : DeedOk P φ W w W' z (Instr.range t v) := by
  have key : ∀ (ob : Obj) (o : AObj), (∀ ψ w', φ.le ψ → w'.heap[w.heap.size]? = some ob → objRel ψ w' ⟨w.heap.size, 0, 0⟩ o) → (Instr.range t v).run P w = .ok (.pointer (some ⟨w.heap.size, 0, none⟩)) { w with heap := w.heap.push ob } →
      (z, W') = (.ptr W.nxt 0, W.new o) → DeedOk P φ W w W' z (Instr.range t v) := by
    intro ob o hr hrun he
    cases he
    obtain ⟨hn, _, _⟩ := s.newA o
    obtain ⟨s', t'⟩ := s.new (i := ⟨w.heap.size, 0, 0⟩) (o := o) (w' := { w with heap := w.heap.push ob }) rfl (fun k hk => push_old _ _ _ hk) (by simp) rfl rfl rfl (hr _ _ (Phi.le_set _ hn) (by simp))
    exact ⟨_, _, _, hrun, s', t', ⟨_, Phi.set_same _ _ _, rfl⟩⟩
  have hn : W.next = W.nxt := by cases W; rfl
  unfold aRange at h
  rw [hn] at h
  split at h
  · rename_i st hu
    cases lit_rel hx
    simp only [Option.some.injEq] at h
    exact key (.stringIter st 0) (.strIter st 0) (fun ψ w' _ e => ⟨rfl, e⟩) (by simp [Instr.range, run_und hu]) h.symm
  · rename_i a b hu
    cases lit_rel hx
    simp only [Option.some.injEq] at h
    exact key (.mapIter none 0 #[] 0) (.mapIter none 0 [] 0) (fun ψ w' _ e => ⟨rfl, none, e, rfl⟩) (by simp [Instr.range, run_und hu]) h.symm
  · rename_i a b r hu
    split at h
    · rename_i es clock ho
      obtain ⟨i, hi, rfl⟩ := hx
      obtain ⟨es', hes, her⟩ := s.map hi ho
      simp only [Option.some.injEq] at h
      exact key (.mapIter (some i.cb) clock #[] clock) (.mapIter (some r) clock [] clock) (fun ψ w' hle e => ⟨rfl, some i.cb, e, i, hle _ _ hi, rfl⟩) (by simp [Instr.range, run_und hu, run_getMap hes]) h.symm
    · cases h
  · cases h
end
end Go.Ab
