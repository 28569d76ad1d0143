import Derived.Test.YtjjojdnhpnfdfaaGreatDoorAbsGive
import Derived.Laws.Strings
import Derived.Laws.Concat
set_option linter.all false
/-
  COMPARISONS, ARITHMETIC.
-/
namespace Go.Ab
open Go
section
variable {P : Program} {φ : Phi} {w : World}

theorem wrap_small (k : IntKind) (n : Int) (h0 : 0 ≤ n) (h1 : n < 128) : k.wrap n = n := by
  have hb : (128 : Int) ≤ 2 ^ k.bits := by cases k <;> decide
  have hm : n % (2 ^ k.bits : Int) = n := Int.emod_eq_of_lt h0 (by omega)
  have hs : (k.signed && decide (n ≥ (2 ^ (k.bits - 1) : Int))) = false := by
    cases hk : k.signed
    · rfl
    · have hc : (128 : Int) ≤ 2 ^ (k.bits - 1) := by cases k <;> first | decide | cases hk
      simp; omega
  unfold IntKind.wrap
  simp only [hm, hs]
  rfl

theorem wrapF_eq (k : IntKind) (n : Int) : wrapF k n = k.wrap n := by
  cases n with
  | negSucc x => rfl
  | ofNat x =>
    unfold wrapF
    simp only
    cases hb : Nat.blt x 128
    · rfl
    · have hx : x < 128 := Nat.blt_eq ▸ hb
      exact (wrap_small k _ (Int.natCast_nonneg _) (by show (x : Int) < 128; omega)).symm

theorem blt_decide (a b : Nat) : Nat.blt a b = decide (a < b) := by
  cases h : Nat.blt a b
  · have : ¬ a < b := fun h' => by have h2 : Nat.blt a b = true := by rw [Nat.blt_eq]; exact h'
                                   rw [h2] at h; cases h
    simp [this]
  · have : a < b := Nat.blt_eq ▸ h
    simp [this]
theorem beq_decide (a b : Nat) : Nat.beq a b = decide (a = b) := by
  cases h : Nat.beq a b
  · have : a ≠ b := Nat.ne_of_beq_eq_false h
    simp [this]
  · have : a = b := Nat.eq_of_beq_eq_true h
    simp [this]

theorem intLt_eq (a b : Int) : intLt a b = decide (a < b) := by
  cases a with
  | ofNat x => cases b with
    | ofNat y => show Nat.blt x y = _; rw [blt_decide]; exact decide_eq_decide.2 ⟨fun h => by show (x : Int) < y; omega, fun h => by have h' : (x : Int) < y := h; omega⟩
    | negSucc y => show false = _; exact (decide_eq_false (by show ¬ (x : Int) < Int.negSucc y; omega)).symm
  | negSucc x => cases b with
    | ofNat y => show true = _; exact (decide_eq_true (by show Int.negSucc x < (y : Int); omega)).symm
    | negSucc y => show Nat.blt y x = _; rw [blt_decide]; exact decide_eq_decide.2 ⟨fun h => by omega, fun h => by omega⟩
theorem intEq_eq (a b : Int) : intEq a b = (a == b) := by
  have e : (a == b) = decide (a = b) := rfl
  rw [e]
  cases a with
  | ofNat x => cases b with
    | ofNat y => show Nat.beq x y = _; rw [beq_decide]; exact decide_eq_decide.2 ⟨fun h => by rw [h], fun h => by cases h; rfl⟩
    | negSucc y => show false = _; exact (decide_eq_false (by intro h; cases h)).symm
  | negSucc x => cases b with
    | ofNat y => show false = _; exact (decide_eq_false (by intro h; cases h)).symm
    | negSucc y => show Nat.beq x y = _; rw [beq_decide]; exact decide_eq_decide.2 ⟨fun h => by rw [h], fun h => by cases h; rfl⟩

theorem kindEq_eq {j k : IntKind} (h : kindEq j k = true) : j = k := by
  cases j <;> cases k <;> first | rfl | (simp [kindEq, kindNo] at h)

theorem eqGuard_pure {op : BinOp} {t : TypeId} {x y : Operand} {a b : Value} (h : ¬ (a = .nilIface ∧ b = .nilIface)) (h2 : ∀ l, a ≠ .agg l) : (eqGuard op t x y a b).run P w = .ok () w := by
  cases op <;> cases a <;> cases b <;> first | rfl | exact absurd ⟨rfl, rfl⟩ h | exact absurd rfl (h2 _)

theorem le_not_lt (a b : Int) : decide (a ≤ b) = !decide (b < a) := by
  by_cases h : a ≤ b
  · have : ¬ b < a := by omega
    simp [h, this]
  · have : b < a := by omega
    simp [h, this]

theorem intBin_ok {op : BinOp} {t : TypeId} {j k : IntKind} {a b : Int} {x : AV} {ox oy : Operand} (h : intBin P op t j a k b = some x) :
    ∃ v, (do eqGuard op t ox oy (.int j a) (.int k b); binOp op t (.int j a) (.int k b) : Sem Value).run P w = .ok v w ∧ x.rel φ v := by
  have hg : (eqGuard op t ox oy (.int j a) (.int k b)).run P w = .ok () w := eqGuard_pure (by simp) (by simp)
  simp only [Sem.run_bind, hg, Result.andThen_ok]
  unfold intBin at h
  split at h
  case h_10 =>
    obtain ⟨v, rfl, hv⟩ := litRun_run h
    exact ⟨v, hv w, rfl⟩
  all_goals
    obtain ⟨hk, h1⟩ := sel_some h rfl
    have := kindEq_eq hk
    subst this
    simp only [Option.some.injEq] at h1
    subst h1
    refine ⟨_, ?_, rfl⟩
    simp [binOp, Op.intArith, Op.intCmp, wrapF_eq, intEq_eq, intLt_eq, pure]
  all_goals first | rfl | exact le_not_lt _ _

theorem equal_succ (t : TypeId) (x y : Value) : Op.equal t x y = Op.equalIn (9999 + 1) t x y := rfl

theorem equalIn_bool (d : Nat) {t : TypeId} {a b : Bool} (hu : undO P t = some .bool) : (Op.equalIn (d + 1) t (.bool a) (.bool b)).run P w = .ok (a == b) w := by
  simp [Op.equalIn, run_und hu]
theorem equal_bool {t : TypeId} {a b : Bool} (hu : undO P t = some .bool) : (Op.equal t (.bool a) (.bool b)).run P w = .ok (a == b) w := equalIn_bool 9999 hu

theorem boolBin_ok {op : BinOp} {t : TypeId} {a b : Bool} {x : AV} {ox oy : Operand} (h : boolBin P op t a b = some x) :
    ∃ v, (do eqGuard op t ox oy (.bool a) (.bool b); binOp op t (.bool a) (.bool b) : Sem Value).run P w = .ok v w ∧ x.rel φ v := by
  have hg : (eqGuard op t ox oy (.bool a) (.bool b)).run P w = .ok () w := eqGuard_pure (by simp) (by simp)
  simp only [Sem.run_bind, hg, Result.andThen_ok]
  unfold boolBin at h
  split at h
  · rename_i hu
    simp only [Option.some.injEq] at h
    subst h
    refine ⟨.bool (a == b), ?_, rfl⟩
    show Sem.run P (do pure (Value.bool (← Op.equal t (.bool a) (.bool b)))) w = _
    simp only [Sem.run_bind, equal_bool hu, Result.andThen_ok]
    rfl
  · rename_i hu
    simp only [Option.some.injEq] at h
    subst h
    refine ⟨.bool !(a == b), ?_, rfl⟩
    show Sem.run P (do pure (Value.bool (!(← Op.equal t (.bool a) (.bool b))))) w = _
    simp only [Sem.run_bind, equal_bool hu, Result.andThen_ok]
    rfl
  · cases h

theorem strBin_ok {op : BinOp} {t : TypeId} {a b : ByteArray} {x : AV} {ox oy : Operand} (h : strBin op a b = some x) :
    ∃ v, (do eqGuard op t ox oy (.string a) (.string b); binOp op t (.string a) (.string b) : Sem Value).run P w = .ok v w ∧ x.rel φ v := by
  have hg : (eqGuard op t ox oy (.string a) (.string b)).run P w = .ok () w := eqGuard_pure (by simp) (by simp)
  simp only [Sem.run_bind, hg, Result.andThen_ok]
  unfold strBin at h
  split at h
  case h_2 => cases h
  rename_i v hv
  simp only [Option.some.injEq] at h
  subst h
  refine ⟨v, ?_, rfl⟩
  have hb : ∀ op', binOp op' t (.string a) (.string b) = Op.stringOp op' a b := by intro op'; cases op' <;> rfl
  rw [hb]
  unfold strOp at hv
  split at hv
  · obtain ⟨hle, h2⟩ := sel_some hv rfl
    have hle : a.data.toList.length + b.data.toList.length ≤ 1000000000 := Nat.le_of_ble_eq_true hle
    simp only [Option.some.injEq] at h2
    subst h2
    have hs : ¬ (((a.size + b.size : Nat) : Int) > IntKind.i64.max) := by
      have e1 : a.size = a.data.toList.length := rfl
      have e2 : b.size = b.data.toList.length := rfl
      have e3 : IntKind.i64.max = 9223372036854775807 := by decide
      rw [e3, e1, e2]
      omega
    have ea : a ++ b = ⟨(a.data.toList ++ b.data.toList).toArray⟩ := by
      have := ByteArray.mk_append_mk a.data.toList b.data.toList
      simpa using this
    simp only [Op.stringOp]
    rw [if_neg hs, ea]
    rfl
  all_goals first
    | (simp only [Option.some.injEq] at hv; subst hv; simp [Op.stringOp, ByteArray.toList_eq, pure, Sem.run]; done)
    | cases hv

/-! Comparisons with nil, and of two places in one block. -/
section eq
variable {t : TypeId} (d : Nat)
theorem eqIn_ptr_nil {e : TypeId} {x : Addr} (hu : undO P t = some (.pointer e)) : (Op.equalIn (d + 1) t (.pointer (some x)) (.pointer none)).run P w = .ok false w := by simp [Op.equalIn, run_und hu]
theorem eqIn_nil_ptr {e : TypeId} {x : Addr} (hu : undO P t = some (.pointer e)) : (Op.equalIn (d + 1) t (.pointer none) (.pointer (some x))).run P w = .ok false w := by simp [Op.equalIn, run_und hu]
theorem eqIn_ptr_ptr {e n : TypeId} {b x y : Nat} (hu : undO P t = some (.pointer e)) (hs : sizeO P e = some (n + 1)) : (Op.equalIn (d + 1) t (.pointer (some ⟨b, x, none⟩)) (.pointer (some ⟨b, y, none⟩))).run P w = .ok (Nat.beq x y) w := by
  simp [Op.equalIn, run_und hu, run_size hs, sameAddr]
  rw [beq_decide]
  by_cases h : x = y <;> simp [h]
theorem eqIn_sl_nil {e : TypeId} {x : Addr} {l c l' c' : Nat} (hu : undO P t = some (.slice e)) : (Op.equalIn (d + 1) t (.slice (some x) l c) (.slice none l' c')).run P w = .ok false w := by simp [Op.equalIn, run_und hu]
theorem eqIn_nil_sl {e : TypeId} {x : Addr} {l c l' c' : Nat} (hu : undO P t = some (.slice e)) : (Op.equalIn (d + 1) t (.slice none l' c') (.slice (some x) l c)).run P w = .ok false w := by simp [Op.equalIn, run_und hu]
theorem eqIn_map_nil {k e : TypeId} {x : Nat} (hu : undO P t = some (.map k e)) : (Op.equalIn (d + 1) t (.map (some x)) (.map none)).run P w = .ok false w := by simp [Op.equalIn, run_und hu]
theorem eqIn_nil_map {k e : TypeId} {x : Nat} (hu : undO P t = some (.map k e)) : (Op.equalIn (d + 1) t (.map none) (.map (some x))).run P w = .ok false w := by simp [Op.equalIn, run_und hu]
theorem eqIn_fn_nil {p r : Array TypeId} {v : Bool} {f : Fn} {a c : Array Value} (hu : undO P t = some (.func p r v)) : (Op.equalIn (d + 1) t (.func f a c) .nilFunc).run P w = .ok false w := by simp [Op.equalIn, run_und hu]
theorem eqIn_nil_fn {p r : Array TypeId} {v : Bool} {f : Fn} {a c : Array Value} (hu : undO P t = some (.func p r v)) : (Op.equalIn (d + 1) t .nilFunc (.func f a c)).run P w = .ok false w := by simp [Op.equalIn, run_und hu]
theorem eqIn_if_nil {m : Array (String × TypeId)} {u : TypeId} {v : Value} (hu : undO P t = some (.interface m)) : (Op.equalIn (d + 1) t (.iface u v) .nilIface).run P w = .ok false w := by simp [Op.equalIn, run_und hu]
theorem eqIn_nil_if {m : Array (String × TypeId)} {u : TypeId} {v : Value} (hu : undO P t = some (.interface m)) : (Op.equalIn (d + 1) t .nilIface (.iface u v)).run P w = .ok false w := by simp [Op.equalIn, run_und hu]
end eq

/-- '==' and '!=' by what the comparison comes to. -/
theorem bin_eql {t : TypeId} {a b : Value} {r : Bool} (h : (Op.equal t a b).run P w = .ok r w) (he : binOp .eql t a b = (do pure (.bool (← Op.equal t a b)))) : (binOp .eql t a b).run P w = .ok (.bool r) w := by
  rw [he]
  simp only [Sem.run_bind, h, Result.andThen_ok]
  rfl
theorem bin_neq {t : TypeId} {a b : Value} {r : Bool} (h : (Op.equal t a b).run P w = .ok r w) (he : binOp .neq t a b = (do pure (.bool (!(← Op.equal t a b))))) : (binOp .neq t a b).run P w = .ok (.bool !r) w := by
  rw [he]
  simp only [Sem.run_bind, h, Result.andThen_ok]
  rfl

/-- What two values that are held against each other by aEq are. -/
structure EqFits (P : Program) (w : World) (t : TypeId) (a b : Value) (r : Bool) : Prop where
  run : (Op.equal t a b).run P w = .ok r w
  eql : binOp .eql t a b = (do pure (.bool (← Op.equal t a b)))
  neq : binOp .neq t a b = (do pure (.bool (!(← Op.equal t a b))))
  noNil : ¬ (a = .nilIface ∧ b = .nilIface)
  noAgg : ∀ l, a ≠ .agg l

theorem aEq_rel {t : TypeId} {x y : AV} {a b : Value} {r : Bool} (h : aEq P t x y = some r) (hx : x.rel φ a) (hy : y.rel φ b) : EqFits P w t a b r := by
  unfold aEq at h
  split at h
  · rename_i e hu
    split at h
    · rename_i bx offx by_ offy
      split at h
      · rename_i n hs
        obtain ⟨hb, hn⟩ := sel_some h rfl
        simp only [Option.some.injEq] at hn
        have hb := Nat.eq_of_beq_eq_true hb
        subst hb
        obtain ⟨i, hi, rfl⟩ := hx
        obtain ⟨j, hj, rfl⟩ := hy
        rw [hi] at hj; cases hj
        have hoff : Nat.beq (i.o + offx) (i.o + offy) = r := by
          rw [← hn, beq_decide, beq_decide]
          exact decide_eq_decide.2 ⟨fun e => by omega, fun e => by omega⟩
        exact ⟨by rw [equal_succ, eqIn_ptr_ptr 9999 hu hs, hoff], rfl, rfl, by simp, by simp⟩
      · cases h
    · obtain ⟨i, hi, rfl⟩ := hx
      cases lit_rel hy
      cases h
      exact ⟨eqIn_ptr_nil 9999 hu, rfl, rfl, by simp, by simp⟩
    · obtain ⟨i, hi, rfl⟩ := hy
      cases lit_rel hx
      cases h
      exact ⟨eqIn_nil_ptr 9999 hu, rfl, rfl, by simp, by simp⟩
    · cases h
  · rename_i e hu
    split at h
    · obtain ⟨i, x, c, hi, rfl, _⟩ := hx
      cases lit_rel hy
      cases h
      exact ⟨eqIn_sl_nil 9999 hu, rfl, rfl, by simp, by simp⟩
    · obtain ⟨i, x, c, hi, rfl, _⟩ := hy
      cases lit_rel hx
      cases h
      exact ⟨eqIn_nil_sl 9999 hu, rfl, rfl, by simp, by simp⟩
    · cases h
  · rename_i k e hu
    split at h
    · obtain ⟨i, hi, rfl⟩ := hx
      cases lit_rel hy
      cases h
      exact ⟨eqIn_map_nil 9999 hu, rfl, rfl, by simp, by simp⟩
    · obtain ⟨i, hi, rfl⟩ := hy
      cases lit_rel hx
      cases h
      exact ⟨eqIn_nil_map 9999 hu, rfl, rfl, by simp, by simp⟩
    · cases h
  · rename_i p q v hu
    split at h
    · obtain ⟨fn', f', c', rfl, _⟩ := hx
      cases lit_rel hy
      cases h
      exact ⟨eqIn_fn_nil 9999 hu, rfl, rfl, by simp, by simp⟩
    · obtain ⟨fn', f', c', rfl, _⟩ := hy
      cases lit_rel hx
      cases h
      exact ⟨eqIn_nil_fn 9999 hu, rfl, rfl, by simp, by simp⟩
    · cases h
  · rename_i m hu
    split at h
    · obtain ⟨x, rfl, _⟩ := hx
      cases lit_rel hy
      cases h
      exact ⟨eqIn_if_nil 9999 hu, rfl, rfl, by simp, by simp⟩
    · obtain ⟨x, rfl, _⟩ := hy
      cases lit_rel hx
      cases h
      exact ⟨eqIn_nil_if 9999 hu, rfl, rfl, by simp, by simp⟩
    · cases h
  · cases h

theorem otherBin_ok {op : BinOp} {t : TypeId} {x y z : AV} {a b : Value} {ox oy : Operand} (h : otherBin P op t ox oy x y = some z) (hx : x.rel φ a) (hy : y.rel φ b) :
    ∃ v, (do eqGuard op t ox oy a b; binOp op t a b : Sem Value).run P w = .ok v w ∧ z.rel φ v := by
  unfold otherBin at h
  split at h
  · rename_i r hr
    have f := aEq_rel (w := w) hr hx hy
    simp only [Sem.run_bind, eqGuard_pure f.noNil f.noAgg, Result.andThen_ok]
    split at h
    · simp only [Option.some.injEq] at h; subst h
      exact ⟨_, bin_eql f.run f.eql, rfl⟩
    · simp only [Option.some.injEq] at h; subst h
      exact ⟨_, bin_neq f.run f.neq, rfl⟩
    · cases h
  · split at h
    · rename_i a' b' ha hb
      have ea := AV.conc_rel _ _ _ ha hx
      have eb := AV.conc_rel _ _ _ hb hy
      subst ea; subst eb
      obtain ⟨v, rfl, hv⟩ := litRun_run h
      exact ⟨v, hv w, rfl⟩
    · cases h

theorem aBin_ok {op : BinOp} {t : TypeId} {x y z : AV} {a b : Value} {ox oy : Operand} (h : aBin P op t ox oy x y = some z) (hx : x.rel φ a) (hy : y.rel φ b) :
    ∃ v, (do eqGuard op t ox oy a b; binOp op t a b : Sem Value).run P w = .ok v w ∧ z.rel φ v := by
  unfold aBin at h
  split at h
  · cases lit_rel hx; cases lit_rel hy; exact intBin_ok h
  · cases lit_rel hx; cases lit_rel hy; exact strBin_ok h
  · cases lit_rel hx; cases lit_rel hy; exact boolBin_ok h
  · exact otherBin_ok h hx hy

theorem aUn_ok {op : UnOp} {x z : AV} {a : Value} (h : aUn P op x = some z) (hx : x.rel φ a) : ∃ v, (Op.unary op a).run P w = .ok v w ∧ z.rel φ v := by
  unfold aUn at h
  split at h
  · cases lit_rel hx
    obtain ⟨v, rfl, hv⟩ := litRun_run h
    exact ⟨v, hv w, rfl⟩
  · cases h

theorem aMin_ok {args : List AV} {l : Array Value} {z : AV} {ts : Array TypeId} {t : TypeId} (h : aMin P args = some z) (r : relL φ args l.toList) : ∃ v, (Builtin.min_ ts t l).run P w = .ok v w ∧ z.rel φ v := by
  unfold aMin at h
  split at h
  · rename_i l' hl
    have e := concL_rel _ _ _ hl r
    obtain ⟨v, rfl, hv⟩ := litRun_run h
    refine ⟨v, ?_, rfl⟩
    have := hv w
    rw [← e] at this
    simpa [Builtin.min_] using this
  · cases h
theorem aMax_ok {args : List AV} {l : Array Value} {z : AV} {ts : Array TypeId} {t : TypeId} (h : aMax P args = some z) (r : relL φ args l.toList) : ∃ v, (Builtin.max_ ts t l).run P w = .ok v w ∧ z.rel φ v := by
  unfold aMax at h
  split at h
  · rename_i l' hl
    have e := concL_rel _ _ _ hl r
    obtain ⟨v, rfl, hv⟩ := litRun_run h
    refine ⟨v, ?_, rfl⟩
    have := hv w
    rw [← e] at this
    simpa [Builtin.max_] using this
  · cases h
end
end Go.Ab
