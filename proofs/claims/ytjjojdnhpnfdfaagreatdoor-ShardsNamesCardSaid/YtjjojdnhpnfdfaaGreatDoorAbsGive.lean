import Derived.Test.YtjjojdnhpnfdfaaGreatDoorAbsMem
set_option linter.all false
/-
  OPERATIONS THAT LOOK AT NOTHING OF MEMORY AND MAKE NO BLOCK.
-/
namespace Go.Ab
open Go
section
variable {P : Program} {φ : Phi} {w : World}

theorem AV.bool?_some {a : AV} {t : Bool} (h : a.bool? = some t) : a = .lit (.bool t) := by
  unfold AV.bool? at h
  split at h
  · simp at h; subst h; rfl
  · cases h
theorem AV.nat?_some {a : AV} {n : Nat} (h : a.nat? = some n) : ∃ k, a = .lit (.int k (.ofNat n)) := by
  unfold AV.nat? at h
  split at h
  · simp at h; subst h; exact ⟨_, rfl⟩
  · cases h
theorem AV.ptr?_some {a : AV} {p : Nat × Nat} (h : a.ptr? = some p) : a = .ptr p.1 p.2 := by
  unfold AV.ptr? at h
  split at h
  · simp at h; subst h; rfl
  · cases h
theorem AV.slice?_some {a : AV} {p : Nat × Nat × Nat} (h : a.slice? = some p) : ∃ cap sz, a = .slice p.1 p.2.1 p.2.2 cap sz := by
  unfold AV.slice? at h
  split at h
  · simp at h; subst h; exact ⟨_, _, rfl⟩
  · cases h
theorem AV.asAgg_rel {a : AV} {cs : List AV} {v : Value} (h : a.asAgg = some cs) (r : a.rel φ v) : ∃ l : Array Value, v = .agg l ∧ relL φ cs l.toList := by
  unfold AV.asAgg at h
  split at h
  · simp at h; subst h; exact r
  · simp at h; subst h
    have : v = _ := r
    subst this
    exact ⟨_, rfl, relL_lits _⟩
  · cases h
theorem AV.asIface_rel {a : AV} {p : TypeId × AV} {v : Value} (h : a.asIface = some p) (r : a.rel φ v) : ∃ x, v = .iface p.1 x ∧ p.2.rel φ x := by
  unfold AV.asIface at h
  split at h
  · simp at h; subst h; exact r
  · simp at h; subst h
    have : v = _ := r
    subst this
    exact ⟨_, rfl, rfl⟩
  · cases h

theorem lit_rel {v v' : Value} (h : (AV.lit v).rel φ v') : v' = v := h

theorem aPick_ok {c a b x : AV} {c' a' b' : Value} (h : aPick c a b = some x) (hc : c.rel φ c') (ha : a.rel φ a') (hb : b.rel φ b') :
    ∃ t v', c' = .bool t ∧ v' = (if t then a' else b') ∧ x.rel φ v' := by
  unfold aPick at h
  split at h
  · rename_i t ht
    rw [AV.bool?_some ht] at hc
    simp at h
    subst h
    refine ⟨t, _, hc, rfl, ?_⟩
    cases t
    · exact hb
    · exact ha
  · cases h

/-! ### Parts of composites -/
theorem aPart_ok {t : TypeId} {cs : List AV} {off : Nat} {x : AV} {l : Array Value} (h : aPart P t cs off = some x) (r : relL φ cs l.toList) :
    ∃ v, (part t l off).run P w = .ok v w ∧ x.rel φ v := by
  obtain ⟨k, hk, h1⟩ := ob_some h
  rcases loadKind_some hk with ⟨hg, rfl⟩ | ⟨n, hg, hn, rfl⟩
  · rw [orec_none] at h1
    obtain ⟨v, hv, hr⟩ := relL_get r h1
    refine ⟨v, ?_, hr⟩
    have hv' : l[off]? = some v := by simpa using hv
    simp [part, run_isAgg hg, hv']
  · rw [orec_some] at h1
    simp at h1
    subst h1
    refine ⟨.agg (l.extract off (off + n)), by simp [part, run_isAgg hg, run_size hn], ⟨_, rfl, ?_⟩⟩
    have e : (l.extract off (off + n)).toList = (l.toList.drop off).take n := by
      simp [List.extract_eq_take_drop]
    rw [e]
    exact relL_take _ (relL_drop _ r)

theorem aField_ok {t : TypeId} {a x : AV} {f : Nat} {v : Value} (h : aField P t a f = some x) (r : a.rel φ v) : ∃ v', (Instr.field t v f).run P w = .ok v' w ∧ x.rel φ v' := by
  unfold aField at h
  split at h
  · rename_i fields hu
    obtain ⟨cs, hcs, h1⟩ := ob_some h
    obtain ⟨fd, hfd, h2⟩ := ob_some h1
    obtain ⟨l, rfl, hl⟩ := AV.asAgg_rel hcs r
    obtain ⟨v', hv, hx⟩ := aPart_ok (w := w) h2 hl
    refine ⟨v', ?_, hx⟩
    have hfd' : fields[f]? = some fd := by simpa using hfd
    simp [Instr.field, run_und hu, hfd', asAgg, hv]
  · cases h

theorem aExtract_ok {a x : AV} {ix : Nat} {v : Value} (h : aExtract a ix = some x) (r : a.rel φ v) : ∃ v', (Instr.extract v ix).run P w = .ok v' w ∧ x.rel φ v' := by
  unfold aExtract at h
  split at h
  · obtain ⟨l, rfl, hl⟩ := r
    rw [nth_eq] at h
    obtain ⟨v', hv, hx⟩ := relL_get hl h
    have hv' : l[ix]? = some v' := by simpa using hv
    exact ⟨v', by simp [Instr.extract, hv'], hx⟩
  · rename_i vs
    have : v = _ := r
    subst this
    obtain ⟨y, hy, h1⟩ := ob_some h
    simp at h1
    subst h1
    rw [nth_eq] at hy
    have hv' : vs[ix]? = some y := by simpa using hy
    exact ⟨y, by simp [Instr.extract, hv'], rfl⟩
  · cases h

theorem aMakeInterface_ok {t : TypeId} {a x : AV} {v : Value} (h : aMakeInterface P t a = some x) (r : a.rel φ v) : ∃ v', (Instr.makeInterface t v).run P w = .ok v' w ∧ x.rel φ v' := by
  unfold aMakeInterface at h
  split at h
  · cases h
  · rename_i d hd hu
    simp at h
    subst h
    refine ⟨.iface t v, ?_, ⟨v, rfl, r⟩⟩
    simp only [Instr.makeInterface, Sem.run_bind, run_und hu, Result.andThen_ok]
    cases d <;> first | rfl | exact (hd _ hu).elim
  · cases h

theorem aNilCheck_ok {a x : AV} {v : Value} (h : aNilCheck a = some x) (r : a.rel φ v) : x = a ∧ v ≠ .pointer none ∧ v ≠ .nilIface ∧ v ≠ .nilFunc ∧ ∀ n f c, v ≠ .func (.method n) f c := by
  unfold aNilCheck at h
  split at h
  · cases h
  · cases h
  · cases h
  · cases h
  · cases h
  · rename_i h1 h2 h3 h4 h5
    simp at h
    refine ⟨h.symm, ?_⟩
    cases a with
    | lit y =>
      have : v = y := r
      subst this
      refine ⟨fun e => h1 (by rw [e]), fun e => h2 (by rw [e]), fun e => h3 (by rw [e]), fun n f c e => h4 n f c (by rw [e])⟩
    | ptr b off => obtain ⟨i, hi, rfl⟩ := r; simp
    | slice b off len cap sz => obtain ⟨i, x, c, hi, rfl, _⟩ := r; simp
    | mapr b => obtain ⟨i, hi, rfl⟩ := r; simp
    | func fn f c =>
      obtain ⟨fn', f', c', rfl, hf, _⟩ := r
      refine ⟨by simp, by simp, by simp, fun n g d e => ?_⟩
      simp at e
      obtain ⟨e1, _, _⟩ := e
      cases fn with
      | method m => exact h5 m f c rfl
      | yield l => obtain ⟨i, _, e2⟩ := hf; rw [e1] at e2; cases e2
      | func g' => have hf : fn' = _ := hf; rw [e1] at hf; cases hf
      | methodOf a b => have hf : fn' = _ := hf; rw [e1] at hf; cases hf
      | via a b c d => have hf : fn' = _ := hf; rw [e1] at hf; cases hf
    | iface t y => obtain ⟨y', rfl, _⟩ := r; simp
    | agg cs => obtain ⟨l, rfl, _⟩ := r; simp
    | tuple cs => obtain ⟨l, rfl, _⟩ := r; simp

/-! ### Composites -/
theorem run_placesL : ∀ {fs : List Field} {l : List (Nat × Nat)}, placesOf P fs = some l →
    Sem.run P (fs.mapM fun f => Prod.mk f.offset <$> sizeOf f.type) w = .ok l w
  | [], l, h => by simp [placesOf] at h; subst h; rfl
  | f :: r, l, h => by
    obtain ⟨s, hs, h1⟩ := ob_some h
    obtain ⟨l', hl, h2⟩ := ob_some h1
    simp at h2
    subst h2
    have ih := run_placesL hl
    rw [List.mapM_cons]
    simp only [Sem.run_bind, Sem.run_map, run_size hs, Result.andThen_ok, ih]
    rfl

theorem run_places {fs : Array Field} {l : List (Nat × Nat)} (h : placesOf P fs.toList = some l) :
    Sem.run P (fs.mapM fun f => Prod.mk f.offset <$> sizeOf f.type) w = .ok l.toArray w := by
  rw [Array.mapM_eq_mapM_toList, Sem.run_map, run_placesL h]
  rfl

theorem foldl_set (v : Array Value) (off : Nat) (cells : Array Value) : v.zipIdx.foldl (fun cs (c, j) => cs.setIfInBounds (off + j) c) cells = putAll v.toList off cells := by
  have key : ∀ (l : List Value) (k : Nat) (cs : Array Value), (l.zipIdx k).foldl (fun cs p => cs.setIfInBounds (off + p.2) p.1) cs = putAll l (off + k) cs := by
    intro l
    induction l with
    | nil => intro k cs; rfl
    | cons a l ih => intro k cs; simp only [List.zipIdx_cons, List.foldl_cons, putAll]; rw [ih]; rfl
  rw [← Array.foldl_toList, Array.toList_zipIdx]
  exact key v.toList 0 cells

theorem putAll_toList (vs : List Value) (off : Nat) (a : Array Value) (h : off + vs.length ≤ a.size) : (putAll vs off a).toList = a.toList.take off ++ (vs ++ a.toList.drop (off + vs.length)) := by
  apply List.ext_getElem?
  intro k
  have := putAll_get vs off a k h
  rw [Array.getElem?_toList, this]
  have hlen : (a.toList.take off).length = off := by simp; omega
  by_cases h1 : k < off
  · rw [if_neg (fun x => by omega), List.getElem?_append_left (by omega)]
    simp [h1]
  · by_cases h2 : k < off + vs.length
    · rw [if_pos ⟨by omega, h2⟩, List.getElem?_append_right (by omega), hlen, List.getElem?_append_left (by omega)]
    · rw [if_neg (fun x => h2 x.2), List.getElem?_append_right (by omega), hlen, List.getElem?_append_right (by omega), List.getElem?_drop]
      simp only [Array.getElem?_toList]
      congr 1
      omega

theorem fill_ok {place : Nat → Option (Nat × Nat)} : ∀ {parts : List (Nat × AV)} {parts' : List (Nat × Value)} {cells l : List AV} {cells' : Array Value}, fillL place cells parts = some l → relL φ cells cells'.toList →
    parts'.map (·.1) = parts.map (·.1) → relL φ (parts.map (·.2)) (parts'.map (·.2)) → ∃ l' : Array Value, Instr.fill place cells' parts' = some l' ∧ relL φ l l'.toList
  | [], [], cells, l, cells', h, r, _, _ => by
    simp [fillL] at h; subst h; exact ⟨cells', rfl, r⟩
  | (i, v) :: ps, (i', v') :: ps', cells, l, cells', h, r, h1, h2 => by
    simp at h1
    obtain ⟨rfl, h1⟩ := h1
    obtain ⟨hv, h2⟩ := h2
    simp only [fillL] at h
    obtain ⟨p, hp, h3⟩ := ob_some h
    obtain ⟨ht, h4⟩ := sel_some h3 rfl
    simp only [an_eq, Bool.and_eq_true] at ht
    obtain ⟨hs, hle⟩ := ht
    have hs : v.cells.length = p.2 := Nat.eq_of_beq_eq_true hs
    have hle : p.1 + p.2 ≤ cells.length := Nat.le_of_ble_eq_true hle
    have hc := AV.cells_rel hv
    have hl1 := relL_length hc
    have hl2 := relL_length r
    have hsz : v'.cells.size = p.2 := by rw [← hs, ← hl1]; simp
    have hsz2 : cells'.size = cells.length := by rw [← hl2]; simp
    obtain ⟨l', e, hr⟩ := fill_ok (cells' := putAll v'.cells.toList p.1 cells') h4 (by
      rw [putAll_toList _ _ _ (by simp [hsz]; omega)]
      refine relL_append (relL_take _ r) (relL_append hc ?_)
      have : v'.cells.toList.length = p.2 := by simp [hsz]
      rw [this]
      exact relL_drop _ r) h1 h2
    refine ⟨l', ?_, hr⟩
    simp only [Instr.fill, hp]
    rw [if_neg (by simp [hsz]; omega)]
    rw [← e]
    congr 1
    exact foldl_set _ _ _
  | [], _ :: _, _, _, _, _, _, h1, _ => by simp at h1
  | _ :: _, [], _, _, _, _, _, h1, _ => by simp at h1

theorem zeroCells_some {t : TypeId} {l : List AV} (h : zeroCells P t = some l) : ∃ v, zeroO P t = some v ∧ l = v.cells.toList.map .lit := by
  obtain ⟨v, hv, h1⟩ := ob_some h
  simp at h1
  exact ⟨v, hv, h1.symm⟩

theorem aBuild_ok {t : TypeId} {parts : List (Nat × AV)} {parts' : Array (Nat × Value)} {x : AV} (h : aBuild P t parts = some x) (h1 : parts'.toList.map (·.1) = parts.map (·.1))
    (h2 : relL φ (parts.map (·.2)) (parts'.toList.map (·.2))) : ∃ v, (Instr.build t parts').run P w = .ok v w ∧ x.rel φ v := by
  obtain ⟨k, hk, h3⟩ := ob_some h
  obtain ⟨l, hl, h4⟩ := ob_some h3
  simp at h4
  subst h4
  obtain ⟨z, hz, h5⟩ := ob_some hk
  obtain ⟨zv, hzv, rfl⟩ := zeroCells_some hz
  split at h5
  · rename_i fields hu
    obtain ⟨pl, hpl, h6⟩ := ob_some h5
    simp at h6
    subst h6
    obtain ⟨l', e, hr⟩ := fill_ok (cells' := zv.cells) hl (relL_lits _) h1 h2
    refine ⟨.agg l', ?_, ⟨l', rfl, hr⟩⟩
    have e' : Instr.fill (fun i => pl.toArray[i]?) zv.cells parts'.toList = some l' := by
      rw [← e]; congr 1; funext i; simp
    simp [Instr.build, run_zero hzv, run_und hu, run_places (w := w) hpl]
    simp at e'
    simp [e']
  · rename_i n elem hu
    obtain ⟨s, hs, h6⟩ := ob_some h5
    simp at h6
    subst h6
    obtain ⟨l', e, hr⟩ := fill_ok (cells' := zv.cells) hl (relL_lits _) h1 h2
    refine ⟨.agg l', ?_, ⟨l', rfl, hr⟩⟩
    have e' : Instr.fill (fun i => some (i * s, s)) zv.cells parts'.toList = some l' := e
    simp [Instr.build, run_zero hzv, run_und hu, run_size hs, e']
  · cases h5

theorem aMakeFunc_ok {ev : Operand → AV} {ρ : Operand → Value} {fn : Fn} {first captured : Array Operand} {x : AV} (h : aMakeFunc ev fn first captured = some x) (hev : ∀ y, (ev y).rel φ (ρ y)) :
    x.rel φ (.func fn (first.map ρ) (captured.map ρ)) := by
  unfold aMakeFunc at h
  split at h
  · cases h
  · rename_i hy
    simp at h
    subst h
    refine ⟨fn, _, _, rfl, ?_, ?_, ?_⟩
    · cases fn with
      | yield l => exact (hy l rfl).elim
      | _ => rfl
    · simpa using relL_map (φ := φ) ev ρ first.toList (fun y _ => hev y)
    · simpa using relL_map (φ := φ) ev ρ captured.toList (fun y _ => hev y)
end
end Go.Ab
