import Derived.Test.YtjjojdnhpnfdfaaGreatDoorAbsGive3
set_option linter.all false
/-
  INDEXES, ASSERTIONS, CAPACITIES, CONVERSIONS THAT LOOK AT NOTHING.
-/
namespace Go.Ab
open Go
section
variable {P : Program} {φ : Phi} {w : World}

theorem aIndexStr_ok {s : ByteArray} {i : Nat} {z : AV} (h : aIndexStr s i = some z) : ∃ b, s[i]? = some b ∧ z = .lit (.int .u8 (.ofNat b.toNat)) := by
  obtain ⟨b, hb, h1⟩ := ob_some h
  simp only [Option.some.injEq] at h1
  rw [nth_eq] at hb
  refine ⟨b, ?_, h1.symm⟩
  have hl : i < s.data.toList.length := (List.getElem?_eq_some_iff.1 hb).1
  have hl' : i < s.size := hl
  have e1 : s.data.toList[i] = b := (List.getElem?_eq_some_iff.1 hb).2
  rw [getElem?_pos s i hl']
  congr 1

theorem aIndex_ok {t : TypeId} {x ix z : AV} {v iv : Value} (h : aIndex P t x ix = some z) (hx : x.rel φ v) (hix : ix.rel φ iv) : ∃ v', (Instr.index t v iv).run P w = .ok v' w ∧ z.rel φ v' := by
  obtain ⟨j, hj, h1⟩ := ob_some h
  obtain ⟨ik, rfl⟩ := AV.nat?_some hj
  cases lit_rel hix
  split at h1
  · rename_i len elem hu
    obtain ⟨cs, hcs, h2⟩ := ob_some h1
    obtain ⟨s, hs, h3⟩ := ob_some h2
    obtain ⟨hlt, h4⟩ := sel_some h3 rfl
    have hlt : j < len := Nat.blt_eq ▸ hlt
    obtain ⟨l, rfl, hl⟩ := AV.asAgg_rel hcs hx
    obtain ⟨v', hv, hr⟩ := aPart_ok (w := w) h4 hl
    refine ⟨v', ?_, hr⟩
    have hc : (0 : Int) ≤ Int.ofNat j ∧ Int.ofNat j < (len : Int) := ⟨Int.natCast_nonneg j, by show (j : Int) < _; omega⟩
    simp only [Instr.index, asIntOf, pure_bind, Sem.run_bind, run_und hu, Result.andThen_ok]
    rw [if_pos hc]
    simp only [Sem.run_bind, run_size hs, Result.andThen_ok]
    exact hv
  · rename_i hu
    split at h1
    · rename_i s
      cases lit_rel hx
      obtain ⟨b, hb, rfl⟩ := aIndexStr_ok h1
      refine ⟨_, ?_, rfl⟩
      simp [Instr.index, asIntOf, run_und hu, hb]
    · cases h1
  · cases h1

theorem aAssert_ok {x z : AV} {v : Value} {xt asserted : TypeId} {ok : Bool} (h : aAssert P x asserted ok = some z) (hx : x.rel φ v) : ∃ v', (Instr.typeAssert v xt asserted ok).run P w = .ok v' w ∧ z.rel φ v' := by
  have hold : ∀ {a : AV} {u : Value}, a.rel φ u → ((if ok then AV.tuple [a, .lit (.bool true)] else a)).rel φ (if ok then .tuple #[u, .bool true] else u) := by
    intro a u hr
    cases ok
    · exact hr
    · exact ⟨_, rfl, hr, rfl, trivial⟩
  have fail : ∀ {i c : Option TypeId} {m : String}, (if ok then (match zeroO P asserted with | some z => some (AV.tuple [.lit z, .lit (.bool false)]) | none => none) else no "assert") = some z →
      ∃ v', ((if ok then (do pure (.tuple #[← zeroValue asserted, .bool false])) else runtimePanic (.typeAssertion i c asserted m)) : Sem Value).run P w = .ok v' w ∧ z.rel φ v' := by
    intro i c m hf
    cases ok
    · cases hf
    · simp only [if_true] at hf
      split at hf
      · rename_i zv hz
        simp only [Option.some.injEq] at hf
        subst hf
        exact ⟨.tuple #[zv, .bool false], by simp [run_zero hz], ⟨_, rfl, rfl, rfl, trivial⟩⟩
      · cases hf
  unfold aAssert at h
  simp only at h
  split at h
  · rename_i want t a hu hi
    obtain ⟨y, rfl, hy⟩ := AV.asIface_rel hi hx
    split at h
    · rename_i info hinfo
      split at h
      · rename_i hm
        simp only [Option.some.injEq] at h
        subst h
        refine ⟨_, ?_, hold hx⟩
        simp [Instr.typeAssert, run_und hu, run_info hinfo, hm]
      · rename_i m hm
        obtain ⟨v', hv, hr⟩ := fail (i := none) (c := some t) (m := m) h
        refine ⟨v', ?_, hr⟩
        simp only [Instr.typeAssert, Sem.run_bind, run_und hu, Result.andThen_ok, run_info hinfo, hm]
        exact hv
    · cases h
  · rename_i hu hi
    split at h
    · cases lit_rel hx
      obtain ⟨v', hv, hr⟩ := fail (i := none) (c := none) (m := "") h
      refine ⟨v', ?_, hr⟩
      simp only [Instr.typeAssert, Sem.run_bind, run_und hu, Result.andThen_ok]
      exact hv
    · cases h
  · rename_i d t a hd hu hi
    obtain ⟨y, rfl, hy⟩ := AV.asIface_rel hi hx
    by_cases e : t = asserted
    · have hb : Nat.beq t asserted = true := by rw [beq_decide]; simp [e]
      rw [hb, sel_true] at h
      simp only [Option.some.injEq] at h
      subst h
      refine ⟨_, ?_, hold hy⟩
      simp only [Instr.typeAssert, Sem.run_bind, run_und hu, Result.andThen_ok]
      cases d <;> first | simp [e] | exact (hd _ rfl).elim
    · have hb : Nat.beq t asserted = false := by rw [beq_decide]; simp [e]
      rw [hb, sel_false] at h
      obtain ⟨v', hv, hr⟩ := fail (i := some xt) (c := some t) (m := "") h
      refine ⟨v', ?_, hr⟩
      simp only [Instr.typeAssert, Sem.run_bind, run_und hu, Result.andThen_ok]
      cases d <;> first | (simp only [if_neg e]; exact hv) | exact (hd _ rfl).elim
  · rename_i d hd hu hi
    split at h
    · cases lit_rel hx
      obtain ⟨v', hv, hr⟩ := fail (i := some xt) (c := none) (m := "") h
      refine ⟨v', ?_, hr⟩
      simp only [Instr.typeAssert, Sem.run_bind, run_und hu, Result.andThen_ok]
      cases d <;> first | exact hv | exact (hd _ rfl).elim
    · cases h
  · cases h

theorem aCap_ok {t : TypeId} {x z : AV} {v : Value} {ts : Array TypeId} {ty : TypeId} {args : Array Value} (h : aCap P t x = some z) (hx : x.rel φ v) (ht : ts[0]? = some t) (ha : args[0]? = some v) :
    ∃ v', (Builtin.cap_ ts ty args).run P w = .ok v' w ∧ z.rel φ v' := by
  unfold aCap at h
  split at h
  · rename_i e b off len n hu
    simp only [Option.some.injEq] at h
    subst h
    obtain ⟨i, y, cap', hi, rfl, g0, g1, g2, g3⟩ := hx
    refine ⟨goInt n, ?_, rfl⟩
    simp [Builtin.cap_, ht, ha, run_und hu, g2 rfl]
  · rename_i e a len n hu
    simp only [Option.some.injEq] at h
    subst h
    cases lit_rel hx
    refine ⟨goInt n, ?_, rfl⟩
    simp [Builtin.cap_, ht, ha, run_und hu]
  · cases h

theorem aSliceData_ok {x z : AV} {v : Value} {ts : Array TypeId} {ty : TypeId} (h : aSliceData x = some z) (hx : x.rel φ v) : ∃ v', (Builtin.unsafeSliceData_ ts ty #[v]).run P w = .ok v' w ∧ z.rel φ v' := by
  unfold aSliceData at h
  split at h
  · rename_i b off len cap sz
    simp only [Option.some.injEq] at h
    subst h
    obtain ⟨i, y, cap', hi, rfl, g0, g1, g2, g3⟩ := hx
    have hc : cap' ≠ 0 := by
      by_cases e : sz = 0
      · rw [g2 e]; simp
      · have := (g3 e).1; omega
    refine ⟨.pointer (some ⟨i.cb, y, none⟩), ?_, ⟨i, hi, ?_⟩⟩
    · unfold Builtin.unsafeSliceData_
      show (if cap' ≠ 0 then _ else _ : Sem Value).run P w = _
      rw [if_pos hc]
      rfl
    · rcases g1 with g | g
      · exact absurd g hc
      · rw [g]
  · simp only [Option.some.injEq] at h
    subst h
    cases lit_rel hx
    exact ⟨.pointer none, rfl, rfl⟩
  · cases h

/-- Conversions that look at nothing. -/
theorem aConvert_give {src dst : TypeId} {x z : AV} {v : Value} (h : aConvert P src dst x = .give (some z)) (hx : x.rel φ v) : ∃ v', (convert src dst v).run P w = .ok v' w ∧ z.rel φ v' := by
  unfold aConvert at h
  split at h
  · cases h
  · split at h <;> cases h
  · cases h
  · cases h
  · cases h
  · rename_i j k hs hd
    split at h
    · rename_i j' n
      cases h
      cases lit_rel hx
      refine ⟨.int k (wrapF k n), ?_, rfl⟩
      simp [convert, run_und hs, run_und hd, Conv.intToInt, wrapF_eq]
    · cases h
  · split at h
    · rename_i u
      cases lit_rel hx
      simp only [Do.give.injEq] at h
      obtain ⟨r, rfl, hr⟩ := litRun_run h
      exact ⟨r, hr w, rfl⟩
    · cases h
end
end Go.Ab
