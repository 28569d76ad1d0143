import Derived.Test.YtjjojdnhpnfdfaaGreatDoorAbsDeed2
set_option linter.all false
/-
  COPIES, CLEARING, MARKS, TEXT THAT SHARES BYTES.
-/
namespace Go.Ab
open Go
section
variable {P : Program} {φ : Phi} {W W' : AW} {w : World}

theorem srcLen_ok {x : AV} {v : Value} {n : Nat} (h : srcLen x = some n) (hx : x.rel φ v) : (Builtin.lenOf v).run P w = .ok n w := by
  unfold srcLen at h
  split at h
  · cases h
    obtain ⟨i, y, c, hi, rfl, _⟩ := hx
    rfl
  · cases h
    cases lit_rel hx
    rfl
  · cases h
    cases lit_rel hx
    rfl
  · cases h

theorem bytesOfStr_rel (s : ByteArray) (n : Nat) : relL φ ((bytesOfStr s).take n) ((s.extract 0 n).data.map fun b => Value.int .u8 b.toNat).toList := by
  have e : ((s.extract 0 n).data.map fun b => Value.int .u8 b.toNat).toList = (s.data.toList.map fun b => Value.int .u8 (b.toNat : Int)).take n := by
    rw [ByteArray.data_extract]
    simp [List.extract_eq_take_drop, List.map_take]
  rw [e]
  refine relL_take _ ?_
  exact relL_map (φ := φ) (fun b : UInt8 => AV.lit (.int .u8 (.ofNat b.toNat))) _ _ (fun b _ => rfl)

theorem firstCells_ok (s : Sim φ W w) {x : AV} {v : Value} {size n m : Nat} {l : List AV} (h : firstCells W size n x = some l) (hx : x.rel φ v) (hl : srcLen x = some m) (hn : n ≤ m) :
    ∃ vs : Array Value, (Builtin.firstCells size n v).run P w = .ok vs w ∧ relL φ l vs.toList := by
  unfold firstCells at h
  split at h
  · rename_i b off len cap sz
    cases hl
    obtain ⟨i, y, c, hi, rfl, g0, g1, g2, g3⟩ := hx
    obtain ⟨vs, hlen, hr, hc⟩ := s.read hi h
    refine ⟨vs.toArray, ?_, by simpa using hr⟩
    show (loadCells ⟨i.cb, y, none⟩ (n * size)).run P w = _
    by_cases h0 : n * size = 0
    · have hlen : vs.length = 0 := hlen.trans h0
      have hvs : vs = [] := List.length_eq_zero_iff.1 hlen
      subst hvs
      rw [h0]
      rfl
    · have hnn : n ≠ 0 := fun e => h0 (by rw [e]; simp)
      have hy : y = i.o + off := by rcases g1 with g | g <;> omega
      subst hy
      have := run_loadCells_list (P := P) w _ _ hc
      rwa [hlen] at this
  · rename_i a b
    cases h
    cases lit_rel hx
    exact ⟨#[], rfl, trivial⟩
  · rename_i st
    cases h
    cases lit_rel hx
    exact ⟨_, rfl, bytesOfStr_rel st n⟩
  · cases h

theorem firstCells_zero {x : AV} {size : Nat} {l : List AV} (h : firstCells W size 0 x = some l) : l = [] := by
  unfold firstCells at h
  split at h
  · obtain ⟨c, hc, h1⟩ := ob_some h
    obtain ⟨_, h2⟩ := sel_some h1 rfl
    have := (Cells.readN_get h2).1
    rw [Nat.mul_eq, Nat.zero_mul] at this
    exact List.length_eq_zero_iff.1 this
  · cases h; rfl
  · cases h; simp
  · cases h

theorem W_write_nil {b off : Nat} (h : W.write b off [] = some W') : W' = W := by cases h; rfl

/-- Cells laid into a slice from its k-th cell on. -/
theorem writeSlice_ok (s : Sim φ W w) {b off k y : Nat} {i : Img} {l : List AV} {vs : Array Value} (hi : φ b = some i) (hr : relL φ l vs.toList) (h : W.write b (off + k) l = some W') (hy : l ≠ [] → y = i.o + off) :
    ∃ w', (storeCells ((⟨i.cb, y, none⟩ : Addr).add k) vs.toList).run P w = .ok () w' ∧ Sim φ W' w' ∧ Step φ W w φ W' w' := by
  cases l with
  | nil =>
    cases W_write_nil h
    rw [relL_nil.1 hr]
    exact ⟨w, rfl, s, .refl _ _ _⟩
  | cons a l =>
    have := hy (by simp)
    subst this
    obtain ⟨w', h1, h2, h3⟩ := s.write (P := P) hi hr h
    refine ⟨w', ?_, h2, h3⟩
    rw [addr_add, Nat.add_assoc]
    exact h1

theorem aCopy_ok (s : Sim φ W w) {t : TypeId} {d x z : AV} {v u : Value} {ts : Array TypeId} {ty : TypeId} {args : Array Value} (h : aCopy P W t d x = some (z, W')) (hd : d.rel φ v) (hx : x.rel φ u)
    (ht : ts[0]? = some t) (ha : args[0]? = some v) (hb : args[1]? = some u) : DeedOk P φ W w W' z (Builtin.copy_ ts ty args) := by
  obtain ⟨e, he, h1⟩ := ob_some h
  obtain ⟨m, hm, h2⟩ := ob_some h1
  obtain ⟨hu, hs⟩ := sliceElem_some he
  have hlen := srcLen_ok (P := P) (w := w) hm hx
  split at h2
  · rename_i b off len cap sz
    obtain ⟨l, hl, h3⟩ := ob_some h2
    obtain ⟨W1, hW, h4⟩ := ob_some h3
    cases h4
    obtain ⟨vs, hfc, hr⟩ := firstCells_ok (P := P) s hl hx hm (Nat.min_le_left _ _)
    obtain ⟨i, y, c, hi, rfl, g0, g1, g2, g3⟩ := hd
    obtain ⟨w', hst, s', t'⟩ := writeSlice_ok (P := P) (k := 0) (y := y) s hi hr hW (by
      intro hne
      rcases g1 with g | g
      · exfalso
        apply hne
        have hl0 : len = 0 := by omega
        have h00 : Nat.min m len = 0 := by rw [hl0]; exact Nat.min_zero m
        rw [h00] at hl
        exact firstCells_zero hl
      · exact g)
    refine ⟨φ, goInt (Nat.min m len), w', ?_, s', t', rfl⟩
    have hz : ((⟨i.cb, y, none⟩ : Addr).add 0) = ⟨i.cb, y, none⟩ := by rw [addr_add]; rfl
    rw [hz] at hst
    simp only [Builtin.copy_, ht, ha, hb, Sem.run_bind, run_und hu, Result.andThen_ok, hlen, run_size hs, hfc, hst, Sem.run_pure]
  · rename_i n c
    obtain ⟨l, hl, h3⟩ := ob_some h2
    cases h3
    cases lit_rel hd
    obtain ⟨vs, hfc, hr⟩ := firstCells_ok (P := P) s hl hx hm (Nat.min_le_left _ _)
    refine ⟨φ, goInt (Nat.min m n), w, ?_, s, .refl _ _ _, rfl⟩
    simp only [Builtin.copy_, ht, ha, hb, Sem.run_bind, run_und hu, Result.andThen_ok, hlen, run_size hs, hfc, Sem.run_pure]
  · cases h2

/-! ### Clearing -/
theorem aClear_ok (s : Sim φ W w) {t : TypeId} {x : AV} {v : Value} {ts : Array TypeId} {ty : TypeId} {args : Array Value} (h : aClear P W t x = some W') (hx : x.rel φ v)
    (ht : ts[0]? = some t) (ha : args[0]? = some v) : DeedOk P φ W w W' .undef (Builtin.clear_ ts ty args) := by
  unfold aClear at h
  split at h
  · rename_i k e hu
    cases h
    cases lit_rel hx
    refine ⟨φ, undef, w, ?_, s, .refl _ _ _, rfl⟩
    simp only [Builtin.clear_, ht, ha, Sem.run_bind, run_und hu, Result.andThen_ok, Sem.run_pure]
    rfl
  · rename_i e a n hu
    cases h
    cases lit_rel hx
    refine ⟨φ, undef, w, ?_, s, .refl _ _ _, rfl⟩
    simp only [Builtin.clear_, ht, ha, Sem.run_bind, run_und hu, Result.andThen_ok, Sem.run_pure]
    rfl
  · rename_i k e r hu
    split at h
    · rename_i es clock ho
      cases h
      obtain ⟨i, hi, rfl⟩ := hx
      obtain ⟨es', hes, her⟩ := s.map hi ho
      obtain ⟨s', t'⟩ := s.setMap hi ho (c1 := clock) (es1 := []) (es2 := #[]) trivial
      refine ⟨φ, undef, _, ?_, s', t', rfl⟩
      simp only [Builtin.clear_, ht, ha, Sem.run_bind, run_und hu, Result.andThen_ok, run_getMap hes, run_setMap _ hes, Sem.run_pure]
      rfl
    · cases h
  · rename_i elem b off n cap sz hu
    obtain ⟨z, hz, h1⟩ := ob_some h
    obtain ⟨zv, hzv, rfl⟩ := zeroCells_some hz
    obtain ⟨i, y, c, hi, rfl, g0, g1, g2, g3⟩ := hx
    have hzl : (zv.cells.toList.map AV.lit).length = zv.cells.size := by simp
    by_cases h0 : n = 0
    · subst h0
      have : zeroRow (zv.cells.toList.map AV.lit) (Nat.mul 0 (zv.cells.toList.map AV.lit).length) = [] := by
        have : Nat.mul 0 (zv.cells.toList.map AV.lit).length = 0 := Nat.zero_mul _
        rw [this]; rfl
      rw [this] at h1
      cases W_write_nil h1
      refine ⟨φ, undef, w, ?_, s, .refl _ _ _, rfl⟩
      simp only [Builtin.clear_, ht, ha, Sem.run_bind, run_und hu, Result.andThen_ok, Sem.run_pure]
      rfl
    · have hy : y = i.o + off := by rcases g1 with g | g <;> omega
      have hrow : relL φ (zeroRow (zv.cells.toList.map AV.lit) (Nat.mul n (zv.cells.toList.map AV.lit).length)) (Builtin.zeroCells zv.cells n).toList := by
        rw [hzl]
        by_cases hz0 : zv.cells.size = 0
        · have e1 : Nat.mul n zv.cells.size = 0 := by rw [hz0]; rfl
          have e2 : n * zv.cells.size = 0 := by rw [hz0]; rfl
          rw [e1]
          unfold Builtin.zeroCells
          rw [e2, range_zero', Array.map_empty]
          trivial
        · exact zeroRow_rel (by omega)
      obtain ⟨w', hst, s', t'⟩ := writeSlice_ok (P := P) (k := 0) (y := y) s hi hrow h1 (fun _ => hy)
      have hz : ((⟨i.cb, y, none⟩ : Addr).add 0) = ⟨i.cb, y, none⟩ := by rw [addr_add]; rfl
      rw [hz] at hst
      refine ⟨φ, undef, w', ?_, s', t', rfl⟩
      obtain ⟨k, rfl⟩ : ∃ k, n = k + 1 := ⟨n - 1, by omega⟩
      simp only [Builtin.clear_, ht, ha, Sem.run_bind, run_und hu, Result.andThen_ok, run_zero hzv, hst, Sem.run_pure]
      rfl
  · cases h

/-! ### Frozen bytes -/
/-- What a freeze does to a block of cells. -/
theorem freeze_heap {b o n : Nat} {arr : Array Value} {el : TypeId} {lo hi : Nat} (hb : w.heap[b]? = some (.cells arr el (lo, hi))) (hn : n ≠ 0) :
    w.freeze ⟨b, o, none⟩ n = { w with heap := w.heap.setIfInBounds b (.cells arr el (if lo == hi then (o, o + n) else (min lo o, max hi (o + n)))) } := by
  unfold World.freeze
  rw [if_neg hn]
  have hlt := (Array.getElem?_eq_some_iff.1 hb).1
  have hv := (Array.getElem?_eq_some_iff.1 hb).2
  have : w.heap.modify b (fun x => match x with
      | .cells c elem (lo, hi) => .cells c elem (if lo == hi then (o, o + n) else (min lo o, max hi (o + n)))
      | o => o) = w.heap.setIfInBounds b (.cells arr el (if lo == hi then (o, o + n) else (min lo o, max hi (o + n)))) := by
    apply Array.ext_getElem?
    intro k
    by_cases e : b = k
    · subst e
      rw [Array.getElem?_modify, if_pos rfl, hb]
      simp [hlt]
    · rw [Array.getElem?_modify, if_neg e, Array.getElem?_setIfInBounds_ne e]
  exact congrArg (fun h => ({ w with heap := h } : World)) this

/-- Cells that are frozen: where 'full' says so, only behind the last one. -/
theorem Sim.freeze (s : Sim φ W w) {b : Nat} {i : Img} {c : Cells} (hb : φ b = some i) (hc : W.cells b = some c) (hwr : c.wr = true) (o n : Nat) (hn : n ≠ 0) (fz : Nat) (hfz : fz = 0 → c.fz = 0 ∧ i.hi ≤ o) :
    Sim φ (W.put b (.cells c.t c.z c.n fz c.wr c.ex c.el)) (w.freeze ⟨i.cb, o, none⟩ n) ∧ Step φ W w φ (W.put b (.cells c.t c.z c.n fz c.wr c.ex c.el)) (w.freeze ⟨i.cb, o, none⟩ n) := by
  obtain ⟨arr, lo, hi, a1, a2, a3, a4, a5, a6⟩ := s.cells hb hc
  rw [freeze_heap a1 hn]
  have hlt := (Array.getElem?_eq_some_iff.1 a1).1
  refine s.turn hb (AW.cells_some hc) (by simp [AObj.own, hwr]) (fun k hk => by simp [Array.getElem?_setIfInBounds_ne (Ne.symm hk)]) (by simp) rfl rfl rfl ?_
  refine ⟨arr, (if lo == hi then (o, o + n) else (min lo o, max hi (o + n))).1, (if lo == hi then (o, o + n) else (min lo o, max hi (o + n))).2, by simp [hlt], a2, a3, a4, ?_, a6⟩
  intro h0
  obtain ⟨h1, h2⟩ := hfz h0
  right
  by_cases he : lo = hi
  · have : (lo == hi) = true := by simp [he]
    rw [this]
    show arr.size ≤ o
    omega
  · have : (lo == hi) = false := by simp [he]
    rw [this]
    show arr.size ≤ min lo o
    rcases a5 h1 with e | e
    · exact absurd e he
    · omega

theorem convert_same {src : TypeId} {e : TypeId} {a : Addr} {l c : Nat} (hu : undO P src = some (.slice e)) (he : undO P e = some (.int .u8)) :
    (convert src src (.slice (some a) l c)).run P w = ((markStringish a).run P w).andThen fun _ w' => .ok (.slice (some a) l c) w' := by
  simp only [convert, Sem.run_bind, run_und hu, run_und he, Result.andThen_ok]
  simp

theorem aMark_ok {σ : Type} (s : Sim φ W w) {src dst : TypeId} {x z : AV} {v : Value} {cells : σ → Nat → Option Cells} {st st' : σ} (h : aMark P src dst x cells st = some (z, st')) (hcells : cells st = W.cells) (hx : x.rel φ v) :
    st' = st ∧ DeedOk P φ W w W z (convert src dst v) := by
  obtain ⟨he, h1⟩ := sel_some h rfl
  have he : src = dst := Nat.eq_of_beq_eq_true he
  subst he
  split at h1
  · rename_i e hu
    split at h1
    · rename_i p hu8 hp
      obtain ⟨c, hc, h2⟩ := ob_some h1
      obtain ⟨hwr, h3⟩ := sel_some h2 rfl
      cases h3
      refine ⟨rfl, ?_⟩
      rw [hcells] at hc
      obtain ⟨cap, sz, rfl⟩ := AV.slice?_some hp
      have hx' := hx
      obtain ⟨i, y, cap', hi, rfl, g⟩ := hx
      have hsh := s.shape hi hc
      obtain ⟨s', t'⟩ := s.freeze hi hc hwr i.hi 1 (by simp) c.fz (fun h => ⟨h, Nat.le_refl _⟩)
      have ho := AW.cells_some hc
      obtain ⟨s2, t2⟩ := Sim.back ho s' t'
      refine ⟨φ, _, _, ?_, s2, t2, hx'⟩
      rw [convert_same hu hu8]
      simp [markStringish, hsh]
    · cases h1
  · cases h1

/-! ### unsafe.String -/
theorem run_loadBytesI : ∀ (ns : List Int) (a : Addr) (acc : ByteArray), (∀ j x, (ns.map (Value.int .u8))[j]? = some x → w.cell? (a.add j) = some x) →
    (loadBytes a acc ns.length).run P w = .ok ⟨acc.data ++ (ns.map fun n => UInt8.ofNat n.toNat).toArray⟩ w
  | [], a, acc, _ => by simp [loadBytes]
  | x :: l, a, acc, h => by
    have h0 : w.cell? a = some (.int .u8 x) := by
      have := h 0 (.int .u8 x) rfl
      simpa [Addr.add] using this
    have ih := run_loadBytesI l (a.add 1) (acc.push (UInt8.ofNat x.toNat)) (fun j y hy => by
      have := h (j + 1) y (by simpa using hy)
      have e : (a.add 1).add j = a.add (j + 1) := by
        unfold Addr.add
        by_cases hj : j = 0
        · subst hj; simp
        · simp [hj]; omega
      rw [e]; exact this)
    simp only [List.length_cons, loadBytes, Sem.run_bind, run_load, h0, Result.andThen]
    have hx : x.toNat.toUInt8 = UInt8.ofNat x.toNat := rfl
    rw [hx, ih]
    congr 1
    apply ByteArray.ext
    simp [ByteArray.push]

theorem unsafeString_def {pt ty : TypeId} {ts : Array TypeId} {p : Option Addr} {k : IntKind} {n : Nat} (ht : ts[0]? = some pt) :
    (Builtin.unsafeString_ ts ty #[.pointer p, .int k (.ofNat n)]) = (do
        let m ← asInt (.int k (.ofNat n))
        let some pt := ts[0]? | stuck "unsafe.String: no argument types"
        if m < 0 then runtimePanic (.error "unsafe.String: len out of range")
        if m > IntKind.i64.max then unsupported (.unsafePointer "String: a length above the largest int")
        match p with
        | none =>
          if m = 0 then pure (.string .empty)
          else runtimePanic (.error "unsafe.String: ptr is nil and len is not zero")
        | some a =>
          if m = 0 then pure (.string .empty)
          else if ← variablesAt a (← elemOf pt) m.toNat then do
            let s ← loadBytes a .empty m.toNat
            freeze a m.toNat
            pure (.string s)
          else unsupported (.unsafePointer "String: not so many bytes at ptr")) := rfl

theorem aUnsafeString_ok {s s' : St} (sm : Sim φ s.W w) {pt : TypeId} {x n z : AV} {v u : Value} {ts : Array TypeId} {ty : TypeId} (h : aUnsafeString P pt x n s = some (z, s')) (hx : x.rel φ v) (hn : n.rel φ u) (ht : ts[0]? = some pt) :
    s'.tm = s.tm ∧ s'.ds = s.ds ∧ DeedOk P φ s.W w s'.W z (Builtin.unsafeString_ ts ty #[v, u]) := by
  obtain ⟨m, hm, h1⟩ := ob_some h
  obtain ⟨k, rfl⟩ := AV.nat?_some hm
  cases lit_rel hn
  have zero : ∀ p : Option Addr, (Builtin.unsafeString_ ts ty #[.pointer p, .int k (.ofNat 0)]).run P w = .ok (.string ⟨#[]⟩) w := by
    intro p
    rw [unsafeString_def ht]
    have hmax : IntKind.i64.max = 9223372036854775807 := rfl
    cases p <;> simp [asInt, asIntOf, ht, hmax] <;> rfl
  cases m with
  | zero =>
    simp only at h1
    split at h1
    · cases h1
      obtain ⟨i, hi, rfl⟩ := hx
      exact ⟨rfl, rfl, φ, _, w, zero _, sm, .refl _ _ _, rfl⟩
    · cases h1
      cases lit_rel hx
      exact ⟨rfl, rfl, φ, _, w, zero _, sm, .refl _ _ _, rfl⟩
    · cases h1
  | succ m =>
    simp only at h1
    split at h1
    · rename_i e hu
      obtain ⟨p, hp, h2⟩ := ob_some h1
      obtain ⟨c, hc, h3⟩ := ob_some h2
      split at h3
      · rename_i hsz
        obtain ⟨htst, h4⟩ := sel_some h3 rfl
        obtain ⟨l, hl, h5⟩ := ob_some h4
        obtain ⟨bs, hbs, h6⟩ := ob_some h5
        cases h6
        simp only [an_eq, Bool.and_eq_true] at htst
        obtain ⟨hwr, hble, hlay⟩ := htst
        have hble : m + 1 ≤ 1000000000 := Nat.le_of_ble_eq_true hble
        rw [AV.ptr?_some hp] at hx
        obtain ⟨i, hi, rfl⟩ := hx
        obtain ⟨vs, hlen, hr, hcell⟩ := sm.read hi hl
        obtain ⟨ns, rfl, rfl⟩ := bytes?_some hbs
        have hvs := relL_ints hr
        subst hvs
        have hlen : ns.length = m + 1 := by simpa using hlen
        have hsh := sm.shape hi hc
        obtain ⟨arr, lo, hi', a1, a2, a3, a4, a5, a6⟩ := sm.cells hi hc
        have hle : p.2 + (m + 1) ≤ c.n := by
          obtain ⟨c', hc', h7⟩ := ob_some hl
          rw [hc] at hc'; cases hc'
          exact Nat.le_of_ble_eq_true (sel_some h7 rfl).1
        obtain ⟨s2, t2⟩ := sm.freeze hi hc hwr (i.o + p.2) (m + 1) (by simp) 1 (fun h => (by cases h))
        refine ⟨rfl, rfl, φ, _, _, ?_, s2, t2, rfl⟩
        have hcells : P.cellsOf c.el = 1 := by
          obtain ⟨inf, hi2, e⟩ := sizeO_some hsz
          simp [Program.cellsOf, infoO_eq hi2, e]
        have hlies : liesAt P P.depth c.el i.hi (i.o + p.2) e (m + 1) = true := by
          have hd : P.depth = (2 * (P.types.size + Made.depth) + 1) + 1 := rfl
          have hlay' : sameLayout P P.depth c.el e = true := hlay
          unfold liesAt
          rw [hd]
          simp only [Bool.or_eq_true]
          left
          unfold rowAt
          simp only [hcells]
          rw [hd] at hlay'
          simp [hlay']
          left
          omega
        have hvar : (variablesAt ⟨i.cb, i.o + p.2, none⟩ e (m + 1)).run P w = .ok true w := by simp [variablesAt, hsh, hcells, hlies]
        have hlb := run_loadBytesI (P := P) (w := w) ns ⟨i.cb, i.o + p.2, none⟩ .empty hcell
        rw [hlen] at hlb
        rw [unsafeString_def ht]
        have hmax : IntKind.i64.max = 9223372036854775807 := rfl
        have hi1 : (asInt (.int k (.ofNat (m + 1)))).run P w = .ok (Int.ofNat (m + 1)) w := rfl
        have c1 : ¬ (Int.ofNat (m + 1) < 0) := by show ¬ ((m + 1 : Nat) : Int) < 0; omega
        have c2 : ¬ (Int.ofNat (m + 1) > 9223372036854775807) := by show ¬ ((m + 1 : Nat) : Int) > 9223372036854775807; omega
        have c3 : ¬ (Int.ofNat (m + 1) = 0) := by show ¬ ((m + 1 : Nat) : Int) = 0; omega
        have c4 : (Int.ofNat (m + 1)).toNat = m + 1 := rfl
        have hel : (elemOf pt).run P w = .ok e w := by simp [elemOf, run_und hu]
        simp only [Sem.run_bind, hi1, Result.andThen_ok, ht, hmax]
        rw [if_neg c1, if_neg c2, if_neg c3]
        simp only [Sem.run_bind, Result.andThen_ok, Sem.run_pure, hel, c4, hvar, if_true, hlb, run_freeze]
        simp
      · cases h3
    · cases h1
end
end Go.Ab
