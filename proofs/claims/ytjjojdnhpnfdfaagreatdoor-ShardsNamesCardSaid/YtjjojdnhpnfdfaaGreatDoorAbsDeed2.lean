import Derived.Test.YtjjojdnhpnfdfaaGreatDoorAbsDeed
set_option linter.all false
/-
  MORE DEEDS: STEPS OF ITERATORS, COPIES, CLEARING, TEXT THAT SHARES BYTES.
-/
namespace Go.Ab
open Go
section
variable {P : Program} {φ : Phi} {W W' : AW} {w : World}

theorem AW.at_put_back {W : AW} {b : Nat} {o : AObj} (h : W.at b = some o) (c : Nat) : (W.put b o).at c = W.at c := by
  by_cases e : b = c
  · subst e; rw [AW.at_put_same, h]
  · exact AW.at_put_other W o e

/-- An object that was put where it lay. -/
theorem Sim.back {φ' : Phi} {w' : World} {b : Nat} {o : AObj} (ho : W.at b = some o) (s' : Sim φ' (W.put b o) w') (t' : Step φ W w φ' (W.put b o) w') : Sim φ' W w' ∧ Step φ W w φ' W w' := by
  have hat := AW.at_put_back ho
  have hn : (W.put b o).nxt = W.nxt := AW.nxt_put _ _ _
  refine ⟨s'.same (Nat.le_of_eq hn) (fun c _ _ => (hat c).symm), t'.le, t'.size, t'.os, t'.tape, t'.output, t'.frame, ?_, Nat.le_refl _, ?_⟩
  · rintro k hk ⟨c, i, o', h1, h2, h3, h4⟩
    exact t'.owned k hk ⟨c, i, o', h1, h2, (hat c).trans h3, h4⟩
  · intro c hc hnone
    exact ⟨(t'.out c hc hnone).1, rfl⟩

/-! ### Steps of iterators -/
theorem entRel_filter (p : Nat → Bool) : ∀ {a : List (Value × AV × Nat)} {c : List MapEntry}, entRel φ a c → entRel φ (a.filter fun e => p e.2.2) (c.filter fun m => p m.born)
  | [], [], _ => trivial
  | e :: a, m :: c, ⟨h1, h2, h3, h4⟩ => by
    simp only [List.filter_cons, h3]
    cases p e.2.2
    · exact entRel_filter p h4
    · exact ⟨h1, h2, h3, entRel_filter p h4⟩

theorem entRel_all (p : Nat → Bool) : ∀ {a : List (Value × AV × Nat)} {c : List MapEntry}, entRel φ a c → c.all (fun m => p m.born) = a.all fun e => p e.2.2
  | [], [], _ => rfl
  | e :: a, m :: c, ⟨_, _, h3, h4⟩ => by simp only [List.all_cons, h3, entRel_all p h4]

theorem run_setAny {r : Nat} {o0 : Obj} (o : Obj) (h : w.heap[r]? = some o0) (hc : ∀ c e f, o0 ≠ .cells c e f) : (setObj r o).run P w = .ok () { w with heap := w.heap.setIfInBounds r o } := by
  cases o0 <;> first | exact absurd rfl (hc _ _ _) | simp [setObj, Sem.run, h]
theorem run_getAny {r : Nat} {o0 : Obj} (h : w.heap[r]? = some o0) (hc : ∀ c e f, o0 ≠ .cells c e f) : (getObj r).run P w = .ok o0 w := by
  cases o0 <;> first | exact absurd rfl (hc _ _ _) | simp [getObj, Sem.run, h]

theorem aNext_ok (s : Sim φ W w) {it z : AV} {isString : Bool} {v : Value} {ty : TypeId} (h : aNext W it isString = some (z, W')) (hit : it.rel φ v) : DeedOk P φ W w W' z (Instr.next v isString ty) := by
  unfold aNext at h
  split at h
  · rename_i r
    obtain ⟨i, hi, rfl⟩ := hit
    obtain ⟨_, o, ho, hr⟩ := s.obj r i hi
    split at h
    · rename_i st pos hw
      rw [hw] at ho
      cases ho
      obtain ⟨h0, hh⟩ := hr
      have hg := run_getAny (P := P) hh (by simp)
      by_cases hp : pos < st.size
      · rw [if_pos hp] at h
        cases h
        obtain ⟨s', t'⟩ := s.turn (w' := { w with heap := w.heap.setIfInBounds i.cb (.stringIter st (pos + (Utf8.decode st pos).2)) }) (o' := .strIter st (pos + (Utf8.decode st pos).2)) hi hw rfl
          (fun k hk => by simp [Array.getElem?_setIfInBounds_ne (Ne.symm hk)]) (by simp) rfl rfl rfl ⟨h0, by simp [(Array.getElem?_eq_some_iff.1 hh).1]⟩
        refine ⟨φ, .tuple #[.bool true, goInt pos, .int .i32 (Utf8.decode st pos).1], _, ?_, s', t', ⟨_, rfl, rfl, rfl, rfl, trivial⟩⟩
        simp [Instr.next, h0, hg, hp, run_setAny _ hh]
      · rw [if_neg hp] at h
        cases h
        refine ⟨φ, .tuple #[.bool false], w, ?_, s, .refl _ _ _, ⟨_, rfl, rfl, trivial⟩⟩
        simp [Instr.next, h0, hg, hp]
    · rename_i a b c hw
      rw [hw] at ho
      cases ho
      cases h
      obtain ⟨h0, m', hh, hm⟩ := hr
      have hm : m' = none := hm
      subst hm
      have hg := run_getAny (P := P) hh (by simp)
      refine ⟨φ, .tuple #[.bool false], w, ?_, s, .refl _ _ _, ⟨_, rfl, rfl, trivial⟩⟩
      simp [Instr.next, h0, hg]
    · rename_i m since seen last hw
      rw [hw] at ho
      cases ho
      obtain ⟨h0, m', hh, j, hj, rfl⟩ := hr
      have hg := run_getAny (P := P) hh (by simp)
      split at h
      · rename_i es clock hm
        obtain ⟨es', hes, her⟩ := s.map hj hm
        split at h
        · cases h
        · rename_i hcond
          have hcond' : ¬ ((!seen.toArray.isEmpty && !es'.isEmpty && es'.all fun e => decide (e.born ≥ last)) = true) := by
            rw [isEmpty_eq her, ← Array.all_toList, entRel_all (fun n => decide (n ≥ last)) her]
            simpa using hcond
          have hfl := entRel_filter (fun n => !seen.contains n) her
          have hleft : (es'.filter fun e => !seen.toArray.contains e.born).toList = es'.toList.filter fun m => !seen.contains m.born := by
            rw [Array.toList_filter]
            congr 1
            funext m
            simp
          split at h
          · rename_i hnil
            cases h
            rw [hnil] at hfl
            have hnil' : es'.toList.filter (fun m => !seen.contains m.born) = [] := by
              cases hx : es'.toList.filter (fun m => !seen.contains m.born) with
              | nil => rfl
              | cons a b => rw [hx] at hfl; exact hfl.elim
            have hl : (es'.filter fun e => !seen.toArray.contains e.born) = #[] := by
              apply Array.ext'; rw [hleft, hnil']
            refine ⟨φ, .tuple #[.bool false], w, ?_, s, .refl _ _ _, ⟨_, rfl, rfl, trivial⟩⟩
            simp only [Instr.next, h0, Sem.run_bind, hg, Result.andThen_ok, run_getMap hes]
            rw [if_neg hcond']
            have hc : ((if ((#[] : Array MapEntry).filter (fun x => decide (x.born < since))).isEmpty = true then #[none] else #[]) ++
                (((#[] : Array MapEntry).filter (fun x => decide (x.born < since)) ++ (#[] : Array MapEntry).filter (fun x => decide (x.born ≥ since))).map some) : Array (Option MapEntry)) = #[none] := by simp
            simp only [Sem.run_bind, Result.andThen_ok, Sem.run_pure, hl, hc]
            rfl
          · rename_i e hone
            split at h
            · rename_i hlt
              cases h
              rw [hone] at hfl
              obtain ⟨q, hq⟩ : ∃ q, es'.toList.filter (fun m => !seen.contains m.born) = [q] := by
                cases hx : es'.toList.filter (fun m => !seen.contains m.born) with
                | nil => rw [hx] at hfl; exact hfl.elim
                | cons a b => cases b with
                  | nil => exact ⟨a, rfl⟩
                  | cons c d => rw [hx] at hfl; exact hfl.2.2.2.elim
              rw [hq] at hfl
              obtain ⟨k1, k2, k3, _⟩ := hfl
              have hl : (es'.filter fun e => !seen.toArray.contains e.born) = #[q] := by
                apply Array.ext'; rw [hleft, hq]
              have hqs : q.born < since := by rw [k3]; exact hlt
              obtain ⟨s', t'⟩ := s.turn (w' := { w with heap := w.heap.setIfInBounds i.cb (.mapIter (some j.cb) since (seen.toArray.push q.born) clock) }) (o' := .mapIter (some m) since (seen ++ [e.2.2]) clock) hi hw rfl
                (fun k hk => by simp [Array.getElem?_setIfInBounds_ne (Ne.symm hk)]) (by simp) rfl rfl rfl ⟨h0, some j.cb, by simp [(Array.getElem?_eq_some_iff.1 hh).1, k3], j, hj, rfl⟩
              refine ⟨φ, .tuple #[.bool true, q.key, q.val], _, ?_, s', t', ⟨_, rfl, rfl, k1, k2, trivial⟩⟩
              simp only [Instr.next, h0, Sem.run_bind, hg, Result.andThen_ok, run_getMap hes]
              rw [if_neg hcond']
              have hold : (#[q] : Array MapEntry).filter (fun e => decide (e.born < since)) = #[q] := by simp [hqs]
              have hnew : (#[q] : Array MapEntry).filter (fun e => decide (e.born ≥ since)) = #[] := by simp [hqs]
              have hc : ((if (#[q] : Array MapEntry).isEmpty = true then #[none] else #[]) ++ ((#[q] ++ #[] : Array MapEntry).map some) : Array (Option MapEntry)) = #[some q] := by simp
              simp only [Sem.run_bind, Result.andThen_ok, Sem.run_pure, hl, hold, hnew, hc]
              have hch : (choose (.mapNext 1)).run P w = .ok 0 w := rfl
              show ((choose (.mapNext 1)).run P w).andThen _ = _
              rw [hch]
              simp only [Result.andThen_ok]
              have h00 : (#[some q] : Array (Option MapEntry))[0]? = some (some q) := rfl
              simp only [h00, Sem.run_bind, run_setAny (P := P) (.mapIter (some j.cb) since (seen.toArray.push q.born) clock) hh (by simp), Result.andThen_ok, Sem.run_pure]
            · cases h
          · cases h
      · cases h
    · cases h
  · cases h
end
end Go.Ab
