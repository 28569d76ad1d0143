import Derived.Test.YtjjojdnhpnfdfaaGreatDoorAbsDeed3
import Derived.Laws.Append
set_option linter.all false
/-
  APPEND: IN PLACE, OR INTO A NEW ROW.
-/
namespace Go.Ab
open Go
section
variable {P : Program} {φ : Phi} {W W' : AW} {w : World}

theorem xBasic_false {u : TypeId} (h : xBasic P u = false) : ∃ d, undO P u = some d ∧ ∀ k, d ≠ .int k := by
  unfold xBasic at h
  split at h
  · cases h
  · rename_i d hd hu
    exact ⟨d, hu, fun k e => hd k e⟩
  · cases h

/-- The row has room. -/
theorem run_append_fits {ts : Array TypeId} {ty t u e : TypeId} {args : Array Value} {base : Option Addr} {len cap size n : Nat} {x : Value} {vs : Array Value} {w' : World}
    (ht : ts[0]? = some t) (hu1 : ts[1]? = some u) (ha : args[0]? = some (.slice base len cap)) (hb : args[1]? = some x) (hu : undO P t = some (.slice e)) (hs : sizeO P e = some size) (hx : xBasic P u = false)
    (hn : (Builtin.lenOf x).run P w = .ok n w) (hfit : len + n ≤ cap) (hf : (Builtin.firstCells size n x).run P w = .ok vs w)
    (hst : (match base with | some a => storeCells (a.add (len * size)) vs.toList | none => pure ()).run P w = .ok () w') :
    (Builtin.append_ ts ty args).run P w = .ok (.slice base (len + n) cap) w' := by
  obtain ⟨d, hd, hnd⟩ := xBasic_false hx
  have hz : (match d with | .int _ => true | _ => false) = false := by cases d <;> first | rfl | exact absurd rfl (hnd _)
  simp only [Builtin.append_, ht, hu1, ha, hb, Sem.run_bind, run_und hu, Result.andThen_ok, run_size hs, run_und hd, Sem.run_pure]
  cases d <;> first | exact absurd rfl (hnd _) | (simp only [Bool.not_false, if_true, Bool.false_eq_true, if_false, hn, Result.andThen_ok, Sem.run_bind]; rw [if_pos hfit]; cases base with | none => (cases hst; simp [hf]) | some a => (simp only at hst; simp [hf, hst]))

/-- It has not: a new row. -/
theorem run_append_grows {ts : Array TypeId} {ty t u e : TypeId} {args : Array Value} {base : Option Addr} {len cap size n bytes : Nat} {x zv : Value} {olds vs : Array Value}
    (ht : ts[0]? = some t) (hu1 : ts[1]? = some u) (ha : args[0]? = some (.slice base len cap)) (hb : args[1]? = some x) (hu : undO P t = some (.slice e)) (hs : sizeO P e = some size) (hx : xBasic P u = false) (hby : bytesO P e = some bytes)
    (hzv : zeroO P e = some zv) (hn : (Builtin.lenOf x).run P w = .ok n w) (hfit : cap < len + n) (hroom : (len + n) * (bytes + 1) ≤ 100000000)
    (hf : (Builtin.firstCells size n x).run P w.drew = .ok vs w.drew) (ho : (Builtin.firstCells size len (.slice base len cap)).run P w.drew = .ok olds w.drew) :
    (Builtin.append_ ts ty args).run P w = .ok (.slice (some ⟨w.heap.size, 0, none⟩) (len + n) (grownCap w (len + n) cap e))
      (w.drew.alloc (.cells (olds ++ vs ++ Builtin.zeroCells zv.cells (grownCap w (len + n) cap e - (len + n))) e)) := by
  obtain ⟨d, hd, hnd⟩ := xBasic_false hx
  obtain ⟨info, hi, rfl⟩ := bytesO_run hby
  have h1 : ¬ (len + n ≤ cap) := by omega
  have hle1 : len + n ≤ 100000000 := by
    have : (len + n) * 1 ≤ (len + n) * (info.bytes + 1) := Nat.mul_le_mul_left _ (by omega)
    omega
  have hle2 : (len + n) * info.bytes ≤ 100000000 := by
    have : (len + n) * info.bytes ≤ (len + n) * (info.bytes + 1) := Nat.mul_le_mul_left _ (by omega)
    omega
  have h2 : ¬ (9223372036854775807 < ((len : Int) + (n : Int))) := by omega
  have h3 : ¬ (281474976710656 < Builtin.nextslicecap (len + n) cap * info.bytes) := by
    have := growslice_fits hfit (bytes := info.bytes) (by omega)
    omega
  simp only [Builtin.append_, ht, hu1, ha, hb, Sem.run_bind, run_und hu, Result.andThen_ok, run_size hs, run_und hd, Sem.run_pure]
  cases d <;> first
    | exact absurd rfl (hnd _)
    | (simp only [Bool.not_false, if_true, Bool.false_eq_true, if_false, hn, Result.andThen_ok, Sem.run_bind]; simp [h1, h2, h3, run_info hi, hf, ho, run_zero hzv, newRow, grownCap, Question.forced])

/-- A row's cells, read whole. -/
theorem loadRow {b y m : Nat} {arr : Array Value} {el : TypeId} {f : Nat × Nat} (hb : w.heap[b]? = some (.cells arr el f)) (hle : y + m ≤ arr.size) : (loadCells ⟨b, y, none⟩ m).run P w = .ok (arr.extract y (y + m)) w := by
  have := run_loadCells_list (P := P) w ⟨b, y, none⟩ (arr.extract y (y + m)).toList (by
    intro j v hv
    have hj : j < m := by
      have := (List.getElem?_eq_some_iff.1 hv).1
      simp at this
      omega
    rw [addr_add, cell_of hb]
    have hj' : y + j < arr.size := by omega
    simp only [Array.getElem?_toList] at hv
    rw [Array.getElem?_extract] at hv
    have hj2 : j < min (y + m) arr.size - y := by omega
    rw [if_pos hj2] at hv
    exact hv)
  have hl : (arr.extract y (y + m)).toList.length = m := by simp; omega
  rw [hl, Array.toArray_toList] at this
  exact this

/-- The head of a row, as it shall lie in a new block. -/
theorem headOf_ok (s : Sim φ W w) {size len b off cap sz : Nat} {i : Img} {t : Tr AV} {z : List AV} (hb : φ b = some i) (h : headOf W size len (.slice b off len cap sz) = some (t, z)) :
    ∃ c : Cells, ∃ arr lo hi, W.cells b = some c ∧ w.heap[i.cb]? = some (.cells arr c.el (lo, hi)) ∧ arr.size = i.hi ∧ i.o + off + len * size ≤ i.hi ∧ (c.fz = 0 → lo = hi ∨ arr.size ≤ lo) ∧
      ∀ (n fz : Nat) (wr ex : Bool) (el : TypeId) k a, k < len * size → (Cells.mk t z n fz wr ex el).at k = some a → ∃ v', arr[i.o + off + k]? = some v' ∧ a.rel φ v' := by
  cases off with
  | zero =>
    obtain ⟨c, hc, h1⟩ := ob_some (show ob (W.cells b) _ = some (t, z) from h)
    obtain ⟨hle, h2⟩ := sel_some h1 rfl
    cases h2
    have hle : len * size ≤ c.n := Nat.le_of_ble_eq_true hle
    obtain ⟨arr, lo, hi, a1, a2, a3, a4, a5, a6⟩ := s.cells hb hc
    refine ⟨c, arr, lo, hi, hc, a1, a2, by omega, a5, ?_⟩
    intro n fz wr ex el k a hk ha
    rw [Cells.at_eq] at ha
    exact a6 k a (by omega) (by rw [Cells.at_eq]; exact ha)
  | succ off =>
    obtain ⟨l, hl, h1⟩ := ob_some (show ob (W.read b (off + 1) (Nat.mul len size)) _ = some (t, z) from h)
    simp only [Option.some.injEq, Prod.mk.injEq] at h1
    obtain ⟨rfl, rfl⟩ := h1
    obtain ⟨c, hc, h2⟩ := ob_some hl
    obtain ⟨hle, h3⟩ := sel_some h2 rfl
    have hle : off + 1 + len * size ≤ c.n := Nat.le_of_ble_eq_true hle
    obtain ⟨g1, g2⟩ := Cells.readN_get h3
    obtain ⟨arr, lo, hi, a1, a2, a3, a4, a5, a6⟩ := s.cells hb hc
    refine ⟨c, arr, lo, hi, hc, a1, a2, by omega, a5, ?_⟩
    intro n fz wr ex el k a hk ha
    rw [Cells.at_eq] at ha
    simp only [Tr.get_leaf] at ha
    have hkl : k < l.length := by rw [g1]; exact hk
    rw [Nat.mod_eq_of_lt hkl] at ha
    obtain ⟨v', e, hr⟩ := a6 (off + 1 + k) a (by omega) (g2 k a ha)
    exact ⟨v', by rw [← e]; congr 1; omega, hr⟩

/-- What the new block holds. -/
theorem appended_obj {ψ : Phi} {w' : World} {i : Img} {arr : Array Value} {el : TypeId} {lo hi m : Nat} {t : Tr AV} {z new : List AV} {vs : List Value} {n : Nat} (hh : w'.heap[i.cb]? = some (.cells arr el (lo, hi))) (hsz : arr.size = i.hi)
    (hn : n = m + new.length) (hle : i.o + n ≤ i.hi) (hfr : lo = hi ∨ arr.size ≤ lo) (hold : ∀ k a, k < m → (Cells.mk t z n 0 true false el).at k = some a → ∃ v', arr[i.o + k]? = some v' ∧ a.rel ψ v')
    (hnew : ∀ j, j < new.length → arr[i.o + m + j]? = vs[j]?) (hr : relL ψ new vs) : objRel ψ w' i (.cells (writeN m new t) z n 0 true false el) := by
  refine ⟨arr, lo, hi, hh, hsz, hle, fun e => (by cases e), fun _ => hfr, ?_⟩
  intro k a hk ha
  rw [Cells.at_eq] at ha
  simp only [writeN_get] at ha
  by_cases hin : m ≤ k ∧ k < m + new.length
  · rw [if_pos hin] at ha
    have hk2 : k - m < new.length := by omega
    rw [List.getElem?_eq_getElem hk2] at ha
    simp only [Option.some.injEq] at ha
    obtain ⟨v', e, hr'⟩ := relL_get hr (List.getElem?_eq_getElem hk2)
    refine ⟨v', ?_, ha ▸ hr'⟩
    rw [← e, ← hnew _ hk2]
    congr 1; omega
  · rw [if_neg hin] at ha
    exact hold k a (by omega) (by rw [Cells.at_eq]; exact ha)

/-- A block that is used no more. -/
theorem Sim.kill {w0 : World} {φ0 : Phi} {W0 : AW} (s : Sim φ W w) (st : Step φ0 W0 w0 φ W w) {b : Nat} {i : Img} (hb : φ0 b = some i) : Sim φ (W.put b .dead) w ∧ Step φ0 W0 w0 φ (W.put b .dead) w := by
  have hbs : φ b = some i := st.le _ _ hb
  have hat : ∀ c, c ≠ b → (W.put b .dead).at c = W.at c := fun c h => AW.at_put_other W _ (fun e => h e.symm)
  refine ⟨⟨?_, ?_, s.glob⟩, st.le, st.size, st.os, st.tape, st.output, st.frame, ?_, by rw [AW.nxt_put]; exact st.nxt, ?_⟩
  · intro c j hc
    obtain ⟨h1, o, h2, h3⟩ := s.obj c j hc
    refine ⟨by rw [AW.nxt_put]; exact h1, ?_⟩
    by_cases e : c = b
    · subst e; exact ⟨.dead, AW.at_put_same _ _ _, trivial⟩
    · exact ⟨o, (hat c e).trans h2, h3⟩
  · intro c c' j j' o1 o2 hc hc' h1 h2 a1 a2 he
    have real : ∀ {x : Nat} {z : AObj}, (W.put b .dead).at x = some z → z.alive = true → W.at x = some z := by
      intro x z hz az
      by_cases e : x = b
      · subst e; rw [AW.at_put_same] at hz; cases hz; cases az
      · rwa [hat x e] at hz
    exact s.inj c c' j j' o1 o2 hc hc' (real h1 a1) (real h2 a2) a1 a2 he
  · rintro k hk ⟨c, j, o, h1, h2, h3, h4⟩
    by_cases e : c = b
    · subst e; rw [AW.at_put_same] at h3; cases h3; cases h4
    · exact st.owned k hk ⟨c, j, o, h1, h2, (hat c e) ▸ h3, h4⟩
  · intro c hc hn
    obtain ⟨h1, h2⟩ := st.out c hc hn
    exact ⟨h1, (hat c (fun e => by rw [e, hb] at hn; cases hn)).trans h2⟩

/-- A new row, on both sides. -/
theorem freshAppend_ok (s : Sim φ W w) {el : TypeId} {size len n : Nat} {sa z : AV} {new : List AV} {olds vs : Array Value} {zv : Value} {N : Nat} (h : freshAppend P el W size len n sa new = some (z, W')) (hr : relL φ new vs.toList)
    (hnew : new.length = n * size) (hol : olds.size = len * size) (hzv : zeroO P el = some zv) (hN : len + n ≤ N) (hs0 : 0 < size)
    (hold : ∀ t zz, headOf W size len sa = some (t, zz) → ∀ (n fz : Nat) (wr ex : Bool) (el : TypeId) k a, k < len * size → (Cells.mk t zz n fz wr ex el).at k = some a → ∃ v', olds[k]? = some v' ∧ a.rel φ v') :
    ∃ φ', Sim φ' W' (w.drew.alloc (.cells (olds ++ vs ++ Builtin.zeroCells zv.cells (N - (len + n))) el)) ∧ Step φ W w φ' W' (w.drew.alloc (.cells (olds ++ vs ++ Builtin.zeroCells zv.cells (N - (len + n))) el)) ∧
      z.rel φ' (.slice (some ⟨w.heap.size, 0, none⟩) (len + n) N) := by
  obtain ⟨zc, hzc, h1⟩ := ob_some h
  obtain ⟨hzl, h2⟩ := sel_some h1 rfl
  obtain ⟨⟨t, zz⟩, hh, h3⟩ := ob_some h2
  have hzl : zc.length = size := Nat.eq_of_beq_eq_true hzl
  obtain ⟨zv', hzv', rfl⟩ := zeroCells_some hzc
  rw [hzv] at hzv'
  cases hzv'
  have hzs : zv.cells.size = size := by simpa using hzl
  cases h3
  have hvl : vs.size = n * size := by have := relL_length hr; simpa [hnew] using this
  have hzr : (Builtin.zeroCells zv.cells (N - (len + n))).size = (N - (len + n)) * size := by simp [Builtin.zeroCells, hzs]
  have harr : (olds ++ vs ++ Builtin.zeroCells zv.cells (N - (len + n))).size = N * size := by
    simp only [Array.size_append, hol, hvl, hzr]
    rw [← Nat.add_mul, ← Nat.add_mul]
    congr 1
    omega
  obtain ⟨hn0, _, _⟩ := s.newA (.cells (writeN (Nat.mul len size) new t) zz (Nat.mul (Nat.add len n) size) 0 true false el)
  have hle : (len + n) * size ≤ N * size := Nat.mul_le_mul_right _ hN
  obtain ⟨s', t'⟩ := s.new (i := ⟨w.heap.size, 0, N * size⟩) (o := .cells (writeN (Nat.mul len size) new t) zz (Nat.mul (Nat.add len n) size) 0 true false el)
    (w' := w.drew.alloc (.cells (olds ++ vs ++ Builtin.zeroCells zv.cells (N - (len + n))) el)) rfl (fun k hk => push_old _ _ _ hk) (by show w.heap.size ≤ (w.heap.push _).size; simp) rfl rfl rfl
    (appended_obj (m := len * size) (vs := vs.toList) (lo := 0) (hi := 0) (show (w.heap.push _)[w.heap.size]? = _ from Array.getElem?_push_size) harr
      (by rw [hnew]; show (len + n) * size = _; rw [Nat.add_mul]) (by simpa using hle) (.inl rfl)
      (fun k a hk ha => by
        obtain ⟨v', e, hr'⟩ := hold t zz hh _ _ _ _ _ k a hk ha
        refine ⟨v', ?_, AV.rel_mono (Phi.le_set _ hn0) _ _ hr'⟩
        rw [Nat.zero_add, Array.append_assoc, Array.getElem?_append_left (by omega)]
        exact e)
      (fun j hj => by
        rw [Nat.zero_add, Array.append_assoc, Array.getElem?_append_right (by omega), Array.getElem?_append_left (by omega), hol]
        simp)
      (relL_mono (Phi.le_set _ hn0) _ _ hr))
  exact ⟨_, s', t', ⟨_, 0, N, Phi.set_same _ _ _, rfl, hN, .inr rfl, fun e => absurd e (by omega), fun e => ⟨hN, .inr (by simp)⟩⟩⟩

theorem grownCap_ge (w : World) (need old : Nat) (e : TypeId) : need ≤ grownCap w need old e := Nat.le_add_right _ _

theorem Sim.drewW (s : Sim φ W w) : Sim φ W w.drew := s.drew rfl

/-- In place: the new block of the abstract heap lies where the old one did. -/
theorem appendInPlace_ok (s : Sim φ W w) {el : TypeId} {size len n b off cap sz y cap' : Nat} {z : AV} {new : List AV} {vs : Array Value} {c : Cells} {i : Img} (hb : φ b = some i) (hc : W.cells b = some c) (hwr : c.wr = true) (hfz : c.fz = 0)
    (hcell : new.all AV.isCell = true) (h : freshAppend P el W size len n (.slice b off len cap sz) new = some (z, W')) (hr : relL φ new vs.toList) (hnew : new.length = n * size) (hel : el = c.el)
    (hy : y = i.o + off) (hfit : len + n ≤ cap') (hhi : y + cap' * size ≤ i.hi) (hs0 : 0 < size) :
    ∃ φ' w', (storeCells ((⟨i.cb, y, none⟩ : Addr).add (len * size)) vs.toList).run P w = .ok () w' ∧ Sim φ' (W'.put b .dead) w' ∧ Step φ W w φ' (W'.put b .dead) w' ∧ z.rel φ' (.slice (some ⟨i.cb, y, none⟩) (len + n) cap') := by
  obtain ⟨zc, hzc, h1⟩ := ob_some h
  obtain ⟨_, h2⟩ := sel_some h1 rfl
  obtain ⟨⟨t, zz⟩, hh, h3⟩ := ob_some h2
  cases h3
  obtain ⟨c', arr, lo, hi, hc', a1, a2, a3, a4, a5⟩ := headOf_ok s hb hh
  rw [hc] at hc'
  cases hc'
  have hfr := a4 hfz
  have hvl : vs.toList.length = n * size := by rw [relL_length hr, hnew]
  have hmul : (len + n) * size ≤ cap' * size := Nat.mul_le_mul_right _ hfit
  rw [Nat.add_mul] at hmul
  have hone : ∀ v ∈ vs.toList, v.oneCell' = true := by
    intro v hv
    obtain ⟨k, hk⟩ := List.mem_iff_getElem?.1 hv
    have hk' : k < new.length := by rw [← relL_length hr]; exact (List.getElem?_eq_some_iff.1 hk).1
    obtain ⟨v', e, hr'⟩ := relL_get hr (List.getElem?_eq_getElem hk')
    rw [hk] at e; cases e
    exact AV.isCell_rel hr' (List.all_eq_true.1 hcell _ (List.getElem_mem hk'))
  have hrun := run_storeCells_row' (P := P) (o := y + len * size) (vs := vs.toList) a1 (by omega) hfr hone
  have hlt := (Array.getElem?_eq_some_iff.1 a1).1
  obtain ⟨w', hw'⟩ : ∃ w', w' = { w with heap := w.heap.setIfInBounds i.cb (.cells (putAll vs.toList (y + len * size) arr) c.el (lo, hi)) } := ⟨_, rfl⟩
  rw [← hw'] at hrun
  -- the new block, as an object that the model's world does not know
  obtain ⟨o, ho⟩ : ∃ o : AObj, o = .cells (writeN (Nat.mul len size) new t) zz (Nat.mul (Nat.add len n) size) 0 true false el := ⟨_, rfl⟩
  rw [← ho]
  obtain ⟨hn0, s1, t1⟩ := s.newA o
  have hbn : b ≠ W.nxt := fun e => by rw [e, hn0] at hb; cases hb
  have hatb : (W.new o).at b = W.at b := AW.at_new_other W o (fun e => hbn e.symm)
  have hob : W.at b = some (.cells c.t c.z c.n c.fz c.wr c.ex c.el) := AW.cells_some hc
  have hown : (AObj.cells c.t c.z c.n c.fz c.wr c.ex c.el).own = true := hwr
  obtain ⟨s2, t2⟩ := s1.turn (w' := w') (o' := .dead) hb (hatb.trans hob) hown (fun k hk => by rw [hw']; simp [Array.getElem?_setIfInBounds_ne (Ne.symm hk)]) (by rw [hw']; simp) (by rw [hw']) (by rw [hw']) (by rw [hw']) trivial
  have t12 := t1.trans t2
  -- its image
  obtain ⟨j, hj⟩ : ∃ j : Img, j = ⟨i.cb, y, i.hi⟩ := ⟨_, rfl⟩
  have hle := Phi.le_set (φ := φ) (b := W.nxt) j hn0
  have hobj : objRel (φ.set W.nxt j) w' j o := by
    rw [ho, hj]
    refine appended_obj (m := len * size) (vs := vs.toList) (arr := putAll vs.toList (y + len * size) arr) (lo := lo) (hi := hi) (by rw [hw', hel]; simp [hlt]) (by rw [putAll_size]; exact a2) ?_ ?_ (by rw [putAll_size]; exact hfr) ?_ ?_ ?_
    · rw [hnew]; show (len + n) * size = _; rw [Nat.add_mul]
    · show y + (len + n) * size ≤ i.hi
      rw [Nat.add_mul]; omega
    · intro k a hk ha
      obtain ⟨v', e, hr'⟩ := a5 _ _ _ _ _ k a hk ha
      refine ⟨v', ?_, AV.rel_mono (hj ▸ hle) _ _ hr'⟩
      show (putAll vs.toList (y + len * size) arr)[y + k]? = _
      rw [putAll_get _ _ _ _ (by omega), if_neg (fun h => by omega), hy]
      exact e
    · intro k hk
      show (putAll vs.toList (y + len * size) arr)[y + len * size + k]? = _
      rw [putAll_get _ _ _ _ (by omega), if_pos ⟨by omega, by omega⟩]
      congr 1; omega
    · exact relL_mono (hj ▸ hle) _ _ hr
  have hdom : ∀ x q, φ.set W.nxt j x = some q → (x = W.nxt ∧ q = j) ∨ (x ≠ W.nxt ∧ φ x = some q) := by
    intro x q hx
    by_cases e : x = W.nxt
    · subst e; rw [Phi.set_same] at hx; cases hx; exact .inl ⟨rfl, rfl⟩
    · rw [Phi.set_other _ _ e] at hx; exact .inr ⟨e, hx⟩
  have hatn : ((W.new o).put b .dead).at W.nxt = some o := (AW.at_put_other _ _ hbn).trans (AW.at_new_same W o)
  have hatb2 : ((W.new o).put b .dead).at b = some .dead := AW.at_put_same _ _ _
  have hnxt : ((W.new o).put b .dead).nxt = W.nxt + 1 := by rw [AW.nxt_put, AW.nxt_new]
  refine ⟨φ.set W.nxt j, w', ?_, ⟨?_, ?_, ?_⟩, ⟨hle, t12.size, t12.os, t12.tape, t12.output, t12.frame, ?_, t12.nxt, ?_⟩, ?_⟩
  · rw [addr_add]; exact hrun
  · intro x q hx
    rcases hdom x q hx with ⟨rfl, rfl⟩ | ⟨hne, hx'⟩
    · exact ⟨by omega, o, hatn, hobj⟩
    · obtain ⟨g1, o', g2, g3⟩ := s2.obj x q hx'
      refine ⟨g1, o', g2, ?_⟩
      exact g3.mono hle rfl
  · intro x x' q q' o1 o2 hx hx' g1 g2 l1 l2 he
    have other : ∀ {x : Nat} {q : Img} {o1 : AObj}, x ≠ W.nxt → φ x = some q → ((W.new o).put b .dead).at x = some o1 → o1.alive = true → q.cb ≠ i.cb := by
      intro x q o1 hne hx hg hl he
      have hxb : x ≠ b := fun e => by rw [e, hatb2] at hg; cases hg; cases hl
      have hg' : W.at x = some o1 := by
        rw [AW.at_put_other _ _ (fun e => hxb e.symm), AW.at_new_other W o (fun e => hne e.symm)] at hg
        exact hg
      exact hxb (s.inj x b q i o1 _ hx hb hg' hob hl (AObj.own_alive hown) he)
    rcases hdom x q hx with ⟨rfl, rfl⟩ | ⟨hne, hx1⟩ <;> rcases hdom x' q' hx' with ⟨rfl, rfl⟩ | ⟨hne', hx2⟩
    · rfl
    · exact absurd (he.symm.trans (by rw [hj])) (other hne' hx2 g2 l2)
    · exact absurd (he.trans (by rw [hj])) (other hne hx1 g1 l1)
    · exact s2.inj x x' q q' o1 o2 hx1 hx2 g1 g2 l1 l2 he
  · intro g hg
    obtain ⟨q, hq, e⟩ := s.glob g hg
    exact ⟨q, hle g q hq, e⟩
  · rintro k hk ⟨x, q, o1, h1, h2, h3, h4⟩
    rcases hdom x q h1 with ⟨rfl, rfl⟩ | ⟨hne, hx1⟩
    · exact ⟨b, i, _, hb, by rw [← h2, hj], hob, hown⟩
    · exact t12.owned k hk ⟨x, q, o1, hx1, h2, h3, h4⟩
  · intro x hx hnone
    obtain ⟨g1, g2⟩ := t12.out x hx hnone
    exact ⟨by rw [Phi.set_other _ _ (by omega)]; exact g1, g2⟩
  · subst hj
    exact ⟨⟨i.cb, y, i.hi⟩, y, cap', Phi.set_same _ _ _, rfl, hfit, .inr rfl, fun e => absurd e (by omega), fun e => ⟨hfit, .inr hhi⟩⟩

theorem aAppend_ok (s : Sim φ W w) {t u : TypeId} {sa x z : AV} {v xv : Value} {ts : Array TypeId} {ty : TypeId} {args : Array Value} (h : aAppend P W t (xBasic P u) sa x = some (z, W')) (hsa : sa.rel φ v) (hx : x.rel φ xv)
    (ht : ts[0]? = some t) (hu1 : ts[1]? = some u) (ha : args[0]? = some v) (hb : args[1]? = some xv) : DeedOk P φ W w W' z (Builtin.append_ ts ty args) := by
  have hxb : xBasic P u = false := by
    cases e : xBasic P u
    · rfl
    · unfold aAppend at h; rw [e, sel_true] at h; cases h
  unfold aAppend at h
  rw [hxb, sel_false] at h
  obtain ⟨e, he, h1⟩ := ob_some h
  obtain ⟨bytes, hby, h2⟩ := ob_some h1
  obtain ⟨n, hn, h3⟩ := ob_some h2
  obtain ⟨new, hnw, h4⟩ := ob_some h3
  obtain ⟨htst, h5⟩ := sel_some h4 rfl
  simp only [an_eq, Bool.and_eq_true] at htst
  obtain ⟨hs0, hnew⟩ := htst
  have hs0 : 0 < e.2 := Nat.blt_eq ▸ hs0
  have hnew : new.length = n * e.2 := Nat.eq_of_beq_eq_true hnew
  obtain ⟨hu, hs⟩ := sliceElem_some he
  have hlen := fun w => srcLen_ok (P := P) (w := w) hn hx
  obtain ⟨vs, hf, hr⟩ := firstCells_ok (P := P) s hnw hx hn (Nat.le_refl _)
  obtain ⟨vs', hf', hr'⟩ := firstCells_ok (P := P) s.drewW hnw hx hn (Nat.le_refl _)
  have hroomd : ∀ {len : Nat} {W1 : AW} {z1 : AV} {sa1 : AV}, freshAppend P e.1 W e.2 len n sa1 new = some (z1, W1) → ∃ zv, zeroO P e.1 = some zv := by
    intro len W1 z1 sa1 h
    obtain ⟨zc, hzc, _⟩ := ob_some h
    obtain ⟨zv, hzv, _⟩ := zeroCells_some hzc
    exact ⟨zv, hzv⟩
  split at h5
  · rename_i b off len cap sz
    obtain ⟨i, y, cap', hi, rfl, g0, g1, g2, g3⟩ := hsa
    have hcap : cap ≤ cap' := by
      by_cases e : sz = 0
      · exact Nat.le_of_eq (g2 e).symm
      · exact (g3 e).1
    unfold appendRow at h5
    cases hle : Nat.ble (Nat.add len n) cap with
    | true =>
      rw [hle, sel_true] at h5
      obtain ⟨W1, hW, h6⟩ := ob_some h5
      cases h6
      have hle : len + n ≤ cap := Nat.le_of_ble_eq_true hle
      obtain ⟨w', hst, s', t'⟩ := writeSlice_ok (P := P) (k := len * e.2) (y := y) s hi hr hW (by
        intro hne
        have hn0 : n ≠ 0 := fun e0 => hne (firstCells_zero (by rw [e0] at hnw; exact hnw))
        rcases g1 with g | g <;> omega)
      refine ⟨φ, _, w', run_append_fits ht hu1 ha hb hu hs hxb (hlen w) (by omega) hf hst, s', t', ?_⟩
      exact ⟨i, y, cap', hi, rfl, by show len + n ≤ cap'; omega, g1, g2, g3⟩
    | false =>
      rw [hle, sel_false] at h5
      obtain ⟨hroom, h6⟩ := sel_some h5 rfl
      have hroom : (len + n) * (bytes + 1) ≤ 100000000 := Nat.le_of_ble_eq_true hroom
      -- a new row
      have grow : ∀ {z1 : AV} {W1 : AW}, freshAppend P e.1 W e.2 len n (.slice b off len cap sz) new = some (z1, W1) → cap' < len + n →
          ∃ φ' vv w', (Builtin.append_ ts ty args).run P w = .ok vv w' ∧ Sim φ' W1 w' ∧ Step φ W w φ' W1 w' ∧ z1.rel φ' vv := by
        intro z1 W1 hfa hlt
        obtain ⟨zv, hzv⟩ := hroomd hfa
        obtain ⟨zc, hzc, k1⟩ := ob_some hfa
        obtain ⟨_, k2⟩ := sel_some k1 rfl
        obtain ⟨⟨tt, zz⟩, hh, _⟩ := ob_some k2
        obtain ⟨c, arr, lo, hi', hc, a1, a2, a3, a4, a5⟩ := headOf_ok s hi hh
        have hy : cap' ≠ 0 → y = i.o + off := fun hne => by rcases g1 with g | g <;> first | omega | exact g
        obtain ⟨olds, ho, hol, hog⟩ : ∃ olds : Array Value, (Builtin.firstCells e.2 len (.slice (some ⟨i.cb, y, none⟩) len cap')).run P w.drew = .ok olds w.drew ∧ olds.size = len * e.2 ∧ ∀ k, k < len * e.2 → olds[k]? = arr[i.o + off + k]? := by
          by_cases h0 : len = 0
          · subst h0
            refine ⟨#[], ?_, by simp, fun k hk => by simp at hk⟩
            show (loadCells _ (0 * e.2)).run P _ = _
            rw [Nat.zero_mul]; rfl
          · have hy := hy (by omega)
            refine ⟨arr.extract y (y + len * e.2), loadRow (w := w.drew) a1 (by omega), by simp; omega, fun k hk => ?_⟩
            rw [Array.getElem?_extract, if_pos (by omega), hy]
        have hz1 := hzv
        obtain ⟨φ', q1, q2, q3⟩ := freshAppend_ok (N := grownCap w (len + n) cap' e.1) s hfa hr' hnew hol hzv (grownCap_ge _ _ _ _) hs0 (by
          intro t2 z2 hh2 n2 fz wr ex el k a hk ha
          rw [hh] at hh2
          cases hh2
          obtain ⟨v', e1, e2⟩ := a5 n2 fz wr ex el k a hk ha
          exact ⟨v', (hog k hk).trans e1, e2⟩)
        exact ⟨φ', _, _, run_append_grows ht hu1 ha hb hu hs hxb hby hzv (hlen w) hlt hroom hf' ho, q1, q2, q3⟩
      have hnle : ¬ (len + n ≤ cap) := fun h => by
        have : Nat.ble (Nat.add len n) cap = true := Nat.ble_eq_true_of_le h
        rw [this] at hle; cases hle
      cases hz0 : Nat.beq sz 0 with
      | true =>
        rw [hz0, sel_true] at h6
        have hz0 : sz = 0 := Nat.eq_of_beq_eq_true hz0
        exact grow h6 (by have := g2 hz0; omega)
      | false =>
        rw [hz0, sel_false] at h6
        obtain ⟨hss, h7⟩ := sel_some h6 rfl
        have hss : sz = e.2 := Nat.eq_of_beq_eq_true hss
        obtain ⟨c, hc, h8⟩ := ob_some h7
        obtain ⟨hcc, h9⟩ := sel_some h8 rfl
        obtain ⟨⟨z1, W1⟩, hfa, h10⟩ := ob_some h9
        cases h10
        simp only [an_eq, Bool.and_eq_true] at hcc
        obtain ⟨hwr, hfz, hel, hcell⟩ := hcc
        have hel : e.1 = c.el := Nat.eq_of_beq_eq_true hel
        have hfz : c.fz = 0 := Nat.eq_of_beq_eq_true hfz
        by_cases hfit : len + n ≤ cap'
        · have hne : sz ≠ 0 := by omega
          obtain ⟨g4, g5⟩ := g3 hne
          have hy : y = i.o + off := by rcases g1 with g | g <;> first | omega | exact g
          have hhi : y + cap' * e.2 ≤ i.hi := by
            rcases g5 with g | g
            · omega
            · rw [hss] at g; exact g
          obtain ⟨φ', w', q1, q2, q3, q4⟩ := appendInPlace_ok (P := P) s hi hc hwr hfz hcell hfa hr hnew hel hy hfit hhi hs0
          exact ⟨φ', _, w', run_append_fits ht hu1 ha hb hu hs hxb (hlen w) hfit hf q1, q2, q3, q4⟩
        · obtain ⟨φ', vv, w', q1, q2, q3, q4⟩ := grow hfa (by omega)
          obtain ⟨s', t'⟩ := q2.kill q3 hi
          exact ⟨φ', vv, w', q1, s', t', q4⟩
  · obtain ⟨hv⟩ : v = .slice none 0 0 := lit_rel hsa
    cases hnz : Nat.beq n 0 with
    | true =>
      rw [hnz, sel_true] at h5
      cases h5
      have hnz : n = 0 := Nat.eq_of_beq_eq_true hnz
      subst hnz
      exact ⟨φ, _, w, run_append_fits ht hu1 ha hb hu hs hxb (hlen w) (by omega) hf rfl, s, .refl _ _ _, rfl⟩
    | false =>
      rw [hnz, sel_false] at h5
      obtain ⟨hroom, h6⟩ := sel_some h5 rfl
      have hroom : (0 + n) * (bytes + 1) ≤ 100000000 := by rw [Nat.zero_add]; exact Nat.le_of_ble_eq_true hroom
      have hn0 : n ≠ 0 := fun e0 => by subst e0; cases hnz
      obtain ⟨zv, hzv⟩ := hroomd h6
      obtain ⟨φ', q1, q2, q3⟩ := freshAppend_ok (olds := #[]) (N := grownCap w (0 + n) 0 e.1) s h6 hr' hnew (by simp) hzv (grownCap_ge _ _ _ _) hs0 (by
        intro t2 z2 hh2 n2 fz wr ex el k a hk ha
        simp at hk)
      exact ⟨φ', _, _, run_append_grows ht hu1 ha hb hu hs hxb hby hzv (hlen w) (by omega) hroom hf' (run_firstCells_none _ _ _ _ _), q1, q2, q3⟩
  · cases h5
end
end Go.Ab
