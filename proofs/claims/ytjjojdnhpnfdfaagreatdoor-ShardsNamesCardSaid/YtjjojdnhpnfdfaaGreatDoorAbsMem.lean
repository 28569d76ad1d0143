import Derived.Test.YtjjojdnhpnfdfaaGreatDoorAbsRel
import Derived.Laws.IdiomCopy
set_option linter.all false
/-
  READING AND WRITING, TYPES, OPERANDS: the abstract world's against the model's.
-/
namespace Go.Ab
open Go

/-! ### What the tables say -/
theorem infoO_eq {P : Program} {t : TypeId} {i : TypeInfo} (h : infoO P t = some i) : P.info? t = some i := by
  have h1 : P.types.toList[t]? = some i := by rw [← Tr.get_ofList]; exact h
  have h2 : P.types[t]? = some i := by simpa using h1
  have hlt : t < P.types.size := (Array.getElem?_eq_some_iff.1 h2).1
  simp only [Tables.info?, hlt, if_true]
  exact h2

theorem undO_eq {P : Program} {t : TypeId} {d : TypeDesc} (h : undO P t = some d) : P.underlying t = some d := by
  obtain ⟨i, hi, h1⟩ := ob_some h
  have e := infoO_eq hi
  cases i with
  | mk desc str size bytes hp al fa z c m =>
    unfold Program.underlying
    cases desc with
    | named n u =>
      obtain ⟨j, hj, h2⟩ := ob_some h1
      simp at h2
      simp [e, infoO_eq hj, h2]
    | _ =>
      have h2 := Option.some.inj h1
      subst h2
      simp [e]

theorem funcO_eq {P : Program} {f : FuncId} {fn : Func} (h : funcO P f = some fn) : P.funcs[f]? = some fn := by
  have h1 : P.funcs.toList[f]? = some fn := by rw [← Tr.get_ofList]; exact h
  simpa using h1

section
variable {P : Program} {w : World}

theorem run_und {t : TypeId} {d : TypeDesc} (h : undO P t = some d) : (underlying t).run P w = .ok d w := run_underlying (undO_eq h) w

theorem run_info {t : TypeId} {i : TypeInfo} (h : infoO P t = some i) : (typeInfo t).run P w = .ok i w := by
  simp [typeInfo, infoO_eq h]

theorem sizeO_some {t : TypeId} {n : Nat} (h : sizeO P t = some n) : ∃ i, infoO P t = some i ∧ i.size = n := by
  unfold sizeO at h
  split at h
  · rename_i i hi; simp at h; exact ⟨i, hi, h⟩
  · cases h
theorem bytesO_some {t : TypeId} {n : Nat} (h : bytesO P t = some n) : ∃ i, infoO P t = some i ∧ i.bytes = n := by
  unfold bytesO at h
  split at h
  · rename_i i hi; simp at h; exact ⟨i, hi, h⟩
  · cases h
theorem zeroO_some {t : TypeId} {v : Value} (h : zeroO P t = some v) : ∃ i, infoO P t = some i ∧ i.zero = some v := by
  unfold zeroO at h
  split at h
  · rename_i i hi; exact ⟨i, hi, h⟩
  · cases h

theorem run_size {t : TypeId} {n : Nat} (h : sizeO P t = some n) : (sizeOf t).run P w = .ok n w := by
  obtain ⟨i, hi, e⟩ := sizeO_some h
  simp [sizeOf, run_info hi, e]
theorem run_zero {t : TypeId} {v : Value} (h : zeroO P t = some v) : (zeroValue t).run P w = .ok v w := by
  obtain ⟨i, hi, e⟩ := zeroO_some h
  simp [zeroValue, run_info hi, e]
theorem run_isAgg {t : TypeId} {g : Bool} (h : isAggO P t = some g) : (isAgg t).run P w = .ok g w := by
  unfold isAggO at h
  unfold isAgg
  split at h
  · rename_i fs hu; simp at h; simp [run_und hu, h]
  · rename_i a b hu; simp at h; simp [run_und hu, h]
  · rename_i d hu h1 h2
    simp at h
    subst h
    simp only [Sem.run_bind, run_und h2, Result.andThen_ok]
    cases d <;> first | rfl | exact (hu _ rfl).elim | exact (h1 _ _ rfl).elim
  · cases h

theorem loadKind_some {t : TypeId} {k : Option Nat} (h : loadKind P t = some k) : (isAggO P t = some false ∧ k = none) ∨ (∃ n, isAggO P t = some true ∧ sizeO P t = some n ∧ k = some n) := by
  obtain ⟨g, hg, h1⟩ := ob_some h
  cases g
  · rw [sel_false] at h1; simp at h1; exact .inl ⟨hg, h1.symm⟩
  · rw [sel_true] at h1
    obtain ⟨n, hn, h2⟩ := ob_some h1
    simp at h2
    exact .inr ⟨n, hg, hn, h2.symm⟩
end

/-! ### Cells -/
theorem Cells.readN_zero (c : Cells) (i : Nat) : c.readN i 0 = some [] := rfl
theorem Cells.readN_succ (c : Cells) (i n : Nat) : c.readN i (n + 1) = ob (c.at i) fun v => ob (c.readN (i + 1) n) fun l => some (v :: l) := rfl

theorem Cells.readN_get {c : Cells} : ∀ {n i : Nat} {l : List AV}, c.readN i n = some l → l.length = n ∧ ∀ (k : Nat) (a : AV), l[k]? = some a → c.at (i + k) = some a
  | 0, i, l, h => by
    rw [Cells.readN_zero] at h
    simp at h; subst h; simp
  | n + 1, i, l, h => by
    rw [Cells.readN_succ] at h
    obtain ⟨v, hv, h1⟩ := ob_some h
    obtain ⟨r, hr, h2⟩ := ob_some h1
    simp at h2; subst h2
    obtain ⟨g1, g2⟩ := Cells.readN_get hr
    refine ⟨by simp [g1], fun k a hk => ?_⟩
    cases k with
    | zero => simp at hk; subst hk; simpa using hv
    | succ k => have := g2 k a (by simpa using hk); rwa [show i + (k + 1) = i + 1 + k by omega]

theorem AW.cells_some {W : AW} {b : Nat} {c : Cells} (h : W.cells b = some c) : W.at b = some (.cells c.t c.z c.n c.fz c.wr c.ex c.el) := by
  obtain ⟨o, ho, h1⟩ := ob_some h
  cases o <;> simp [AObj.cells?] at h1
  subst h1
  exact ho

theorem addr_add (b o n : Nat) : (⟨b, o, none⟩ : Addr).add n = ⟨b, o + n, none⟩ := by unfold Addr.add; split <;> simp_all

/-- What is known of a block of cells. -/
theorem Sim.cells {φ : Phi} {W : AW} {w : World} (s : Sim φ W w) {b : Nat} {i : Img} {c : Cells} (hb : φ b = some i) (hc : W.cells b = some c) :
    ∃ (arr : Array Value) (lo hi : Nat), w.heap[i.cb]? = some (.cells arr c.el (lo, hi)) ∧ arr.size = i.hi ∧ i.o + c.n ≤ i.hi ∧ (c.ex = true → i.o = 0 ∧ c.n = i.hi) ∧
      (c.fz = 0 → lo = hi ∨ arr.size ≤ lo) ∧ ∀ k v, k < c.n → c.at k = some v → ∃ v', arr[i.o + k]? = some v' ∧ v.rel φ v' := by
  obtain ⟨_, o, ho, hr⟩ := s.obj b i hb
  rw [AW.cells_some hc] at ho
  cases ho
  exact hr

theorem cell_of {w : World} {b o : Nat} {arr : Array Value} {el : TypeId} {f : Nat × Nat} (h : w.heap[b]? = some (.cells arr el f)) : w.cell? ⟨b, o, none⟩ = arr[o]? := by
  simp [World.cell?, h]

theorem Sim.read {φ : Phi} {W : AW} {w : World} (s : Sim φ W w) {b off n : Nat} {i : Img} {l : List AV} (hb : φ b = some i) (h : W.read b off n = some l) :
    ∃ vs : List Value, vs.length = n ∧ relL φ l vs ∧ ∀ j v, vs[j]? = some v → w.cell? ((⟨i.cb, i.o + off, none⟩ : Addr).add j) = some v := by
  obtain ⟨c, hc, h1⟩ := ob_some h
  obtain ⟨hle, h2⟩ := sel_some h1 rfl
  have hle : off + n ≤ c.n := Nat.le_of_ble_eq_true hle
  obtain ⟨hlen, hget⟩ := Cells.readN_get h2
  obtain ⟨arr, lo, hi, a1, a2, a3, _, _, a6⟩ := s.cells hb hc
  refine ⟨(List.range n).map fun k => arr.getD (i.o + off + k) undef, by simp, ?_, ?_⟩
  · refine relL_of_get (by simp [hlen]) ?_
    intro k a v hk hv
    have hkn : k < n := by rw [← hlen]; exact (List.getElem?_eq_some_iff.1 hk).1
    obtain ⟨v', e, hr⟩ := a6 (off + k) a (by omega) (hget k a hk)
    simp [hkn] at hv
    have e' : arr[i.o + off + k]? = some v' := by rw [show i.o + off + k = i.o + (off + k) by omega]; exact e
    rw [e'] at hv
    have hv' : v' = v := hv
    rw [← hv']; exact hr
  · intro j v hv
    have hj : j < n := by have := (List.getElem?_eq_some_iff.1 hv).1; simpa using this
    simp [hj] at hv
    rw [addr_add, cell_of a1]
    have hlt : i.o + off + j < arr.size := by omega
    rw [Array.getElem?_eq_getElem hlt] at hv ⊢
    exact congrArg some hv

theorem Sim.read1 {φ : Phi} {W : AW} {w : World} (s : Sim φ W w) {b off : Nat} {i : Img} {a : AV} (hb : φ b = some i) (h : W.read1 b off = some a) :
    ∃ v : Value, a.rel φ v ∧ w.cell? ⟨i.cb, i.o + off, none⟩ = some v := by
  obtain ⟨c, hc, h1⟩ := ob_some h
  obtain ⟨hlt, h2⟩ := sel_some h1 rfl
  have hlt : off < c.n := Nat.blt_eq ▸ hlt
  obtain ⟨arr, lo, hi, a1, a2, a3, _, _, a6⟩ := s.cells hb hc
  obtain ⟨v', e, hr⟩ := a6 off a hlt h2
  exact ⟨v', hr, by rw [cell_of a1]; exact e⟩

/-! ### Writing -/
theorem writeN_nil (i : Nat) (t : Tr AV) : writeN i [] t = t := rfl
theorem writeN_cons (i : Nat) (v : AV) (l : List AV) (t : Tr AV) : writeN i (v :: l) t = writeN (i + 1) l (t.set i v) := rfl

theorem writeN_get : ∀ (l : List AV) (i : Nat) (t : Tr AV) (k : Nat), (writeN i l t).get k = if i ≤ k ∧ k < i + l.length then l[k - i]? else t.get k
  | [], i, t, k => by rw [writeN_nil, if_neg (fun h => by have := h.2; simp at this; omega)]
  | v :: l, i, t, k => by
    rw [writeN_cons, writeN_get l (i + 1) (t.set i v) k]
    by_cases h : i + 1 ≤ k ∧ k < i + 1 + l.length
    · rw [if_pos h, if_pos ⟨by omega, by simp only [List.length_cons]; omega⟩]
      have : k - i = (k - (i + 1)) + 1 := by omega
      rw [this, List.getElem?_cons_succ]
    · rw [if_neg h]
      by_cases hn : i = k
      · subst hn; rw [Tr.get_set_same, if_pos (by simp)]; simp
      · rw [Tr.get_set_other _ _ hn, if_neg (fun h' => by have := h'.2; simp at this; omega)]

theorem Cells.at_eq (c : Cells) (k : Nat) : c.at k = match c.t.get k with
    | some v => some v
    | none => c.z[k % c.z.length]? := by
  show orec (nth c.z (Nat.mod k c.z.length)) (fun v => some v) (c.t.get k) = _
  cases c.t.get k with
  | none => rw [orec_none, nth_eq]; rfl
  | some v => rfl

/-- Values laid into a row, one behind the other. -/
def putAll : List Value → Nat → Array Value → Array Value
  | [], _, a => a
  | v :: r, i, a => putAll r (i + 1) (a.setIfInBounds i v)

theorem putAll_size : ∀ (vs : List Value) (i : Nat) (a : Array Value), (putAll vs i a).size = a.size
  | [], _, _ => rfl
  | v :: r, i, a => by rw [putAll, putAll_size r]; simp
theorem putAll_get : ∀ (vs : List Value) (i : Nat) (a : Array Value) (k : Nat), i + vs.length ≤ a.size → (putAll vs i a)[k]? = if i ≤ k ∧ k < i + vs.length then vs[k - i]? else a[k]?
  | [], i, a, k, _ => by rw [if_neg (fun h => by have := h.2; simp at this; omega)]; rfl
  | v :: r, i, a, k, h => by
    simp only [List.length_cons] at h
    rw [putAll, putAll_get r (i + 1) _ k (by simp; omega)]
    by_cases hk : i + 1 ≤ k ∧ k < i + 1 + r.length
    · rw [if_pos hk, if_pos ⟨by omega, by simp only [List.length_cons]; omega⟩]
      have : k - i = (k - (i + 1)) + 1 := by omega
      rw [this, List.getElem?_cons_succ]
    · rw [if_neg hk]
      by_cases hn : i = k
      · subst hn
        rw [if_pos (by simp)]
        have : i < a.size := by omega
        simp [this]
      · rw [if_neg (fun h' => by have := h'.2; simp at this; omega), Array.getElem?_setIfInBounds_ne hn]

theorem run_storeCells_row {P : Program} (b : Nat) (el : TypeId) (lo hi : Nat) : ∀ (vs : List Value) (o i : Nat) (arr : Array Value) (w : World), w.heap[b]? = some (.cells arr el (lo, hi)) → o + i + vs.length ≤ arr.size →
    (lo = hi ∨ arr.size ≤ lo) → (∀ v ∈ vs, v.oneCell' = true) →
    (storeCells ⟨b, o, none⟩ vs i).run P w = .ok () { w with heap := w.heap.setIfInBounds b (.cells (putAll vs (o + i) arr) el (lo, hi)) }
  | [], o, i, arr, w, hw, _, _, _ => by
    have : w.heap.setIfInBounds b (.cells arr el (lo, hi)) = w.heap := by
      apply Array.ext_getElem?
      intro k
      by_cases e : b = k
      · subst e
        have hlt := (Array.getElem?_eq_some_iff.1 hw).1
        rw [hw]; simp [hlt]
      · simp [Array.getElem?_setIfInBounds_ne e]
    simp [storeCells, putAll, this]
  | v :: r, o, i, arr, w, hw, hle, hfr, h1 => by
    simp only [List.length_cons] at hle
    have hlt := (Array.getElem?_eq_some_iff.1 hw).1
    have hc : w.cell? ⟨b, o + i, none⟩ = some arr[o + i] := by rw [cell_of hw, Array.getElem?_eq_getElem (by omega)]
    have hz : w.frozen? ⟨b, o + i, none⟩ = false := by
      simp only [World.frozen?, hw]
      rcases hfr with e | e
      · subst e; simp
      · have : ¬ lo ≤ o + i := by omega
        simp [this]
    have hst : (store ((⟨b, o, none⟩ : Addr).add i) v).run P w = .ok () (w.setCell ⟨b, o + i, none⟩ v) := by
      rw [addr_add, run_store P w _ v _ (h1 v (by simp))]
      simp [hc, hz]
    have hset : w.setCell ⟨b, o + i, none⟩ v = { w with heap := w.heap.setIfInBounds b (.cells (arr.setIfInBounds (o + i) v) el (lo, hi)) } := by
      unfold World.setCell
      congr 1
      apply Array.ext_getElem?
      intro k
      by_cases e : b = k
      · subst e
        have hv : w.heap[b] = .cells arr el (lo, hi) := by have := Array.getElem?_eq_getElem hlt; rw [this] at hw; exact Option.some.inj hw
        rw [Array.getElem?_modify, if_pos rfl, hw]
        simp [hlt]
      · simp [Array.getElem?_setIfInBounds_ne e, Array.getElem?_modify, e]
    have hw2 : ({ w with heap := w.heap.setIfInBounds b (.cells (arr.setIfInBounds (o + i) v) el (lo, hi)) } : World).heap[b]? = some (.cells (arr.setIfInBounds (o + i) v) el (lo, hi)) := by simp [hlt]
    have ih := run_storeCells_row (P := P) b el lo hi r o (i + 1) _ _ hw2 (by simp; omega) (by simpa using hfr) (fun x hx => h1 x (by simp [hx]))
    simp only [storeCells, Sem.run_bind, hst, Result.andThen_ok, hset, ih]
    congr 1
    simp [putAll, Nat.add_assoc, Array.setIfInBounds_setIfInBounds]

theorem run_storeCells_row' {P : Program} {b : Nat} {el : TypeId} {lo hi : Nat} {vs : List Value} {o : Nat} {arr : Array Value} {w : World} (hw : w.heap[b]? = some (.cells arr el (lo, hi))) (hle : o + vs.length ≤ arr.size)
    (hf : lo = hi ∨ arr.size ≤ lo) (h1 : ∀ v ∈ vs, v.oneCell' = true) :
    (storeCells ⟨b, o, none⟩ vs).run P w = .ok () { w with heap := w.heap.setIfInBounds b (.cells (putAll vs o arr) el (lo, hi)) } :=
  run_storeCells_row b el lo hi vs o 0 arr w hw (by simpa using hle) hf h1

/-- A block's cells are turned: the model's row as told. -/
theorem Sim.setRow {φ : Phi} {W : AW} {w : World} (s : Sim φ W w) {b : Nat} {i : Img} {c : Cells} (hb : φ b = some i) (hc : W.cells b = some c) (hwr : c.wr = true) {arr' : Array Value} {lo hi : Nat} {o' : AObj}
    (hr : objRel φ { w with heap := w.heap.setIfInBounds i.cb (.cells arr' c.el (lo, hi)) } i o') :
    Sim φ (W.put b o') { w with heap := w.heap.setIfInBounds i.cb (.cells arr' c.el (lo, hi)) } ∧ Step φ W w φ (W.put b o') { w with heap := w.heap.setIfInBounds i.cb (.cells arr' c.el (lo, hi)) } :=
  s.turn hb (AW.cells_some hc) (by simp [AObj.own, hwr]) (fun k hk => by simp [Array.getElem?_setIfInBounds_ne (Ne.symm hk)]) (by simp) rfl rfl rfl hr

theorem Sim.write {P : Program} {φ : Phi} {W W' : AW} {w : World} (s : Sim φ W w) {b off : Nat} {i : Img} {l : List AV} {vs : List Value} (hb : φ b = some i) (hl : relL φ l vs) (h : W.write b off l = some W') :
    ∃ w', (storeCells ⟨i.cb, i.o + off, none⟩ vs).run P w = .ok () w' ∧ Sim φ W' w' ∧ Step φ W w φ W' w' := by
  cases l with
  | nil =>
    have hvs := relL_nil.1 hl
    subst hvs
    have : some W = some W' := h
    cases this
    exact ⟨w, rfl, s, .refl _ _ _⟩
  | cons a l =>
    obtain ⟨c, hc, h1⟩ := ob_some h
    obtain ⟨ht, h2⟩ := sel_some h1 rfl
    simp only [an_eq, Bool.and_eq_true] at ht
    obtain ⟨hwr, hble, hfz, hall⟩ := ht
    have hble : off + (a :: l).length ≤ c.n := Nat.le_of_ble_eq_true hble
    have hfz : c.fz = 0 := Nat.eq_of_beq_eq_true hfz
    simp at h2
    subst h2
    obtain ⟨arr, lo, hi, a1, a2, a3, a4, a5, a6⟩ := s.cells hb hc
    have hlen := relL_length hl
    have hcell : ∀ v ∈ vs, v.oneCell' = true := by
      intro v hv
      obtain ⟨k, hk⟩ := List.mem_iff_getElem?.1 hv
      have hk' : k < (a :: l).length := by rw [← hlen]; exact (List.getElem?_eq_some_iff.1 hk).1
      obtain ⟨v', e, hr⟩ := relL_get hl (List.getElem?_eq_getElem hk')
      rw [hk] at e; cases e
      exact AV.isCell_rel hr (List.all_eq_true.1 hall _ (List.getElem_mem hk'))
    have hrun := run_storeCells_row' (P := P) (o := i.o + off) (vs := vs) a1 (by omega) (a5 hfz) hcell
    have hlt := (Array.getElem?_eq_some_iff.1 a1).1
    refine ⟨_, hrun, s.setRow hb hc hwr ?_⟩
    refine ⟨putAll vs (i.o + off) arr, lo, hi, by simp [hlt], by rw [putAll_size]; exact a2, a3, a4, fun _ => by rw [putAll_size]; exact a5 hfz, ?_⟩
    intro k v hk hv
    rw [putAll_get _ _ _ _ (by omega)]
    rw [Cells.at_eq] at hv
    simp only [writeN_get] at hv
    by_cases hin : off ≤ k ∧ k < off + (a :: l).length
    · rw [if_pos hin] at hv
      rw [if_pos ⟨by omega, by omega⟩]
      have hk2 : k - off < (a :: l).length := by omega
      rw [List.getElem?_eq_getElem hk2] at hv
      simp only [Option.some.injEq] at hv
      obtain ⟨v', e, hr⟩ := relL_get hl (List.getElem?_eq_getElem hk2)
      refine ⟨v', ?_, hv ▸ hr⟩
      rw [← e]; congr 1; omega
    · rw [if_neg hin] at hv
      rw [if_neg (fun h' => hin ⟨by omega, by omega⟩)]
      exact a6 k v hk (by rw [Cells.at_eq]; exact hv)

/-! ### Operands -/
theorem eval_rel {φ : Phi} {W : AW} {w : World} {tm : Tm} {a : Act} (s : Sim φ W w) (h : tmRel φ tm a.tmps) (x : Operand) : (aEval tm x).rel φ (a.eval x) := by
  cases x with
  | tmp t => exact h.2 t
  | const v => exact (rfl : v = v)
  | func f => exact (rfl : Value.func (.func f) #[] #[] = _)
  | global g =>
    by_cases hg : g < nG
    · have e : aEval tm (.global g) = .ptr g 0 := by
        show sel (Nat.blt g nG) (AV.ptr g 0) _ = _
        have : Nat.blt g nG = true := by rw [Nat.blt_eq]; exact hg
        rw [this, sel_true]
      rw [e]
      obtain ⟨i, hi, e1, e2⟩ := s.glob g hg
      exact ⟨i, hi, by rw [e1, e2]; rfl⟩
    · have e : aEval tm (.global g) = .lit (.pointer (some ⟨g, 0, none⟩)) := by
        show sel (Nat.blt g nG) (AV.ptr g 0) _ = _
        have : Nat.blt g nG = false := by
          cases hb : Nat.blt g nG
          · rfl
          · rw [Nat.blt_eq] at hb; exact absurd hb hg
        rw [this, sel_false]
      rw [e]
      exact (rfl : Value.pointer _ = _)

end Go.Ab
