import Derived.Test.YtjjojdnhpnfdfaaGreatDoorAbsCore
import Derived.Laws.Cells
import Derived.Laws.Entries
import Derived.Below
set_option linter.all false
/-
  WHAT THE ABSTRACT RUN STANDS FOR: values, blocks, worlds of the model's, under a map of blocks that may leave some out.
-/
namespace Go.Ab
open Go

/-- Where a block of the abstract heap lies: the model's block, the cell at which it begins, how many cells that block has. -/
structure Img where
  cb : Nat
  o : Nat
  hi : Nat

abbrev Phi := Nat → Option Img

def fnRel (φ : Phi) : Fn → Fn → Prop
  | .yield l, f => ∃ i, φ l = some i ∧ f = .yield i.cb
  | f, g => g = f

mutual
def AV.rel (φ : Phi) : AV → Value → Prop
  | .lit v, v' => v' = v
  | .ptr b off, v' => ∃ i, φ b = some i ∧ v' = .pointer (some ⟨i.cb, i.o + off, none⟩)
  | .slice b off len cap sz, v' => ∃ i x cap', φ b = some i ∧ v' = .slice (some ⟨i.cb, x, none⟩) len cap' ∧ len ≤ cap' ∧ (cap' = 0 ∨ x = i.o + off) ∧ (sz = 0 → cap' = cap) ∧
      (sz ≠ 0 → cap ≤ cap' ∧ (cap' = 0 ∨ x + cap' * sz ≤ i.hi))
  | .mapr r, v' => ∃ i, φ r = some i ∧ v' = .map (some i.cb)
  | .func fn first captured, v' => ∃ fn' f' c', v' = .func fn' f' c' ∧ fnRel φ fn fn' ∧ relL φ first f'.toList ∧ relL φ captured c'.toList
  | .iface t v, v' => ∃ x, v' = .iface t x ∧ v.rel φ x
  | .agg cs, v' => ∃ l : Array Value, v' = .agg l ∧ relL φ cs l.toList
  | .tuple cs, v' => ∃ l : Array Value, v' = .tuple l ∧ relL φ cs l.toList
def relL (φ : Phi) : List AV → List Value → Prop
  | [], [] => True
  | a :: r, v :: s => a.rel φ v ∧ relL φ r s
  | _, _ => False
end

def Phi.le (φ ψ : Phi) : Prop := ∀ b i, φ b = some i → ψ b = some i

theorem Phi.le.refl (φ : Phi) : φ.le φ := fun _ _ h => h
theorem Phi.le.trans {φ ψ χ : Phi} (h : φ.le ψ) (k : ψ.le χ) : φ.le χ := fun b i e => k b i (h b i e)

theorem fnRel.mono {φ ψ : Phi} (h : φ.le ψ) {f g : Fn} (r : fnRel φ f g) : fnRel ψ f g := by
  cases f <;> first | exact r | (obtain ⟨i, hi, rfl⟩ := r; exact ⟨i, h _ _ hi, rfl⟩)

mutual
theorem AV.rel_mono {φ ψ : Phi} (h : φ.le ψ) : ∀ (a : AV) (v : Value), a.rel φ v → a.rel ψ v
  | .lit _, _, r => r
  | .ptr _ _, _, ⟨i, hi, e⟩ => ⟨i, h _ _ hi, e⟩
  | .slice .., _, ⟨i, x, c, hi, r⟩ => ⟨i, x, c, h _ _ hi, r⟩
  | .mapr _, _, ⟨i, hi, e⟩ => ⟨i, h _ _ hi, e⟩
  | .func fn first captured, _, ⟨fn', f', c', e, hf, h1, h2⟩ => ⟨fn', f', c', e, hf.mono h, relL_mono h first _ h1, relL_mono h captured _ h2⟩
  | .iface _ v, _, ⟨x, e, r⟩ => ⟨x, e, AV.rel_mono h v x r⟩
  | .agg cs, _, ⟨l, e, r⟩ => ⟨l, e, relL_mono h cs _ r⟩
  | .tuple cs, _, ⟨l, e, r⟩ => ⟨l, e, relL_mono h cs _ r⟩
theorem relL_mono {φ ψ : Phi} (h : φ.le ψ) : ∀ (a : List AV) (v : List Value), relL φ a v → relL ψ a v
  | [], [], _ => trivial
  | a :: r, v :: s, ⟨h1, h2⟩ => ⟨AV.rel_mono h a v h1, relL_mono h r s h2⟩
end

/-! ### Lists -/
section
variable {φ : Phi}
theorem relL_nil {vs : List Value} : relL φ [] vs ↔ vs = [] := by cases vs <;> simp [relL]
theorem relL_nil_right {as : List AV} : relL φ as [] ↔ as = [] := by cases as <;> simp [relL]
theorem relL_cons {a : AV} {as : List AV} {vs : List Value} : relL φ (a :: as) vs ↔ ∃ v r, vs = v :: r ∧ a.rel φ v ∧ relL φ as r := by
  cases vs with
  | nil => simp [relL]
  | cons v r => exact ⟨fun h => ⟨v, r, rfl, h⟩, fun ⟨_, _, e, h⟩ => by cases e; exact h⟩
theorem relL_length : ∀ {as : List AV} {vs : List Value}, relL φ as vs → vs.length = as.length
  | [], [], _ => rfl
  | _ :: _, _ :: _, h => by simp [relL_length h.2]
theorem relL_get : ∀ {as : List AV} {vs : List Value}, relL φ as vs → ∀ {k : Nat} {a : AV}, as[k]? = some a → ∃ v, vs[k]? = some v ∧ a.rel φ v
  | _ :: _, v :: _, h, 0, a, e => by simp at e; subst e; exact ⟨v, rfl, h.1⟩
  | _ :: _, _ :: _, h, k + 1, a, e => by simpa using relL_get h.2 (by simpa using e)
theorem relL_of_get : ∀ {as : List AV} {vs : List Value}, vs.length = as.length → (∀ (k : Nat) (a : AV) (v : Value), as[k]? = some a → vs[k]? = some v → a.rel φ v) → relL φ as vs
  | [], [], _, _ => trivial
  | a :: as, v :: vs, hl, h => ⟨h 0 a v rfl rfl, relL_of_get (by simpa using hl) (fun k a' v' h1 h2 => h (k + 1) a' v' (by simpa using h1) (by simpa using h2))⟩
theorem relL_append : ∀ {as bs : List AV} {vs us : List Value}, relL φ as vs → relL φ bs us → relL φ (as ++ bs) (vs ++ us)
  | [], _, [], _, _, k => k
  | _ :: _, _, _ :: _, _, h, k => ⟨h.1, relL_append h.2 k⟩
theorem relL_take : ∀ (n : Nat) {as : List AV} {vs : List Value}, relL φ as vs → relL φ (as.take n) (vs.take n)
  | 0, _, _, _ => by simp [relL]
  | _ + 1, [], [], _ => by simp [relL]
  | n + 1, _ :: _, _ :: _, h => ⟨h.1, relL_take n h.2⟩
theorem relL_drop : ∀ (n : Nat) {as : List AV} {vs : List Value}, relL φ as vs → relL φ (as.drop n) (vs.drop n)
  | 0, _, _, h => h
  | _ + 1, [], [], _ => by simp [relL]
  | n + 1, _ :: _, _ :: _, h => relL_drop n h.2
theorem relL_lits : ∀ (vs : List Value), relL φ (vs.map .lit) vs
  | [] => trivial
  | _ :: r => ⟨rfl, relL_lits r⟩
theorem relL_map {α : Type} (f : α → AV) (g : α → Value) : ∀ (l : List α), (∀ x ∈ l, (f x).rel φ (g x)) → relL φ (l.map f) (l.map g)
  | [], _ => trivial
  | x :: l, h => ⟨h x (by simp), relL_map f g l (fun y hy => h y (by simp [hy]))⟩
end

/-! ### What holds no address -/
mutual
theorem AV.conc_rel {φ : Phi} : ∀ (a : AV) (v v' : Value), a.conc = some v → a.rel φ v' → v' = v
  | .lit _, v, v', h, r => by simp [AV.conc] at h; exact r.trans h
  | .ptr .., _, _, h, _ => by simp [AV.conc] at h
  | .slice .., _, _, h, _ => by simp [AV.conc] at h
  | .mapr _, _, _, h, _ => by simp [AV.conc] at h
  | .func .., _, _, h, _ => by simp [AV.conc] at h
  | .iface t a, v, v', h, ⟨x, e, r⟩ => by
    simp only [AV.conc] at h
    split at h
    · rename_i y hy
      simp at h
      rw [e, ← h, AV.conc_rel a y x hy r]
    · cases h
  | .agg cs, v, v', h, ⟨l, e, r⟩ => by
    simp only [AV.conc] at h
    split at h
    · rename_i y hy
      simp at h
      rw [e, ← h, ← concL_rel cs y _ hy r]
    · cases h
  | .tuple cs, v, v', h, ⟨l, e, r⟩ => by
    simp only [AV.conc] at h
    split at h
    · rename_i y hy
      simp at h
      rw [e, ← h, ← concL_rel cs y _ hy r]
    · cases h
theorem concL_rel {φ : Phi} : ∀ (a : List AV) (v v' : List Value), concL a = some v → relL φ a v' → v' = v
  | [], v, v', h, r => by simp [concL] at h; subst h; exact relL_nil.1 r
  | a :: as, v, v', h, r => by
    obtain ⟨x, s, rfl, h1, h2⟩ := relL_cons.1 r
    simp only [concL] at h
    split at h
    · rename_i y hy
      split at h
      · rename_i l hl
        simp at h
        rw [← h, AV.conc_rel a y x hy h1, concL_rel as l s hl h2]
      · cases h
    · cases h
end

theorem pureRun_run {α : Type} {P : Program} : ∀ {s : Sem α} {a : α}, pureRun P s = some a → ∀ w, s.run P w = .ok a w := by
  intro s
  induction s with
  | pure a => intro b h w; simp [pureRun] at h; subst h; rfl
  | program k ih => intro b h w; simp only [pureRun] at h; simpa [Sem.run] using ih P h w
  | mark m k ih => intro b h w; simp only [pureRun] at h; simpa [Sem.run] using ih h w
  | _ => intro b h w; simp [pureRun] at h

theorem litRun_run {P : Program} {s : Sem Value} {a : AV} (h : litRun P s = some a) : ∃ v, a = .lit v ∧ ∀ w, s.run P w = .ok v w := by
  obtain ⟨v, hv, e⟩ := ob_some h
  simp at e
  exact ⟨v, e.symm, pureRun_run hv⟩

/-! ### Cells -/
theorem AV.cells_rel {φ : Phi} {a : AV} {v : Value} (h : a.rel φ v) : relL φ a.cells v.cells.toList := by
  cases a with
  | lit x =>
    have : v = x := h
    subst this
    cases v <;> first | exact ⟨h, trivial⟩ | exact relL_lits _
  | agg cs => obtain ⟨l, rfl, r⟩ := h; exact r
  | ptr b off => obtain ⟨i, hi, rfl⟩ := h; exact ⟨⟨i, hi, rfl⟩, trivial⟩
  | slice b off len cap sz => have h' := h; obtain ⟨i, x, c, hi, rfl, _⟩ := h; exact ⟨h', trivial⟩
  | mapr r => obtain ⟨i, hi, rfl⟩ := h; exact ⟨⟨i, hi, rfl⟩, trivial⟩
  | func fn f c => have h' := h; obtain ⟨fn', f', c', rfl, _⟩ := h; exact ⟨h', trivial⟩
  | iface t x => have h' := h; obtain ⟨x, rfl, _⟩ := h; exact ⟨h', trivial⟩
  | tuple cs => have h' := h; obtain ⟨l, rfl, _⟩ := h; exact ⟨h', trivial⟩

theorem AV.isCell_rel {φ : Phi} {a : AV} {v : Value} (h : a.rel φ v) (hc : a.isCell = true) : v.oneCell' = true := by
  cases a with
  | lit x =>
    have : v = x := h
    subst this
    cases v <;> simp_all [AV.isCell, Value.oneCell']
  | agg cs => simp [AV.isCell] at hc
  | tuple cs => simp [AV.isCell] at hc
  | ptr b off => obtain ⟨i, hi, rfl⟩ := h; rfl
  | slice b off len cap sz => obtain ⟨i, x, c, hi, rfl, _⟩ := h; rfl
  | mapr r => obtain ⟨i, hi, rfl⟩ := h; rfl
  | func fn f c => obtain ⟨fn', f', c', rfl, _⟩ := h; rfl
  | iface t x => obtain ⟨x, rfl, _⟩ := h; rfl

/-! ### Temporaries -/
def tmRel (φ : Phi) (tm : Tm) (tmps : Array Value) : Prop := tmps.size = tm.n ∧ ∀ t, (tm.val t).rel φ (tmps.getD t undef)

theorem Tm.val_eq (tm : Tm) (t : Tmp) : tm.val t = (tm.t.get t).getD .undef := by
  cases tm with
  | mk n tr =>
    show orec .undef (fun v => v) (tr.get t) = _
    cases tr.get t <;> rfl

theorem tmRel.mono {φ ψ : Phi} {tm : Tm} {tmps : Array Value} (h : φ.le ψ) (r : tmRel φ tm tmps) : tmRel ψ tm tmps := ⟨r.1, fun t => AV.rel_mono h _ _ (r.2 t)⟩

theorem Tm.put_some {d : Tmp} {v : AV} {tm tm' : Tm} (h : tm.put d v = some tm') : d < tm.n ∧ tm' = ⟨tm.n, tm.t.set d v⟩ := by
  cases tm with
  | mk n tr =>
    have h' : sel (Nat.blt d n) (some (⟨n, tr.set d v⟩ : Tm)) (no "tmp") = some tm' := h
    obtain ⟨hb, e⟩ := sel_some h' rfl
    simp at e
    exact ⟨Nat.blt_eq ▸ hb, e.symm⟩

theorem tmRel.put {φ : Phi} {tm tm' : Tm} {tmps : Array Value} {d : Tmp} {a : AV} {v : Value} (r : tmRel φ tm tmps) (ha : a.rel φ v) (h : tm.put d a = some tm') :
    tmRel φ tm' (tmps.setIfInBounds d v) := by
  obtain ⟨hd, rfl⟩ := Tm.put_some h
  refine ⟨by simp [r.1], fun t => ?_⟩
  have hlt : d < tmps.size := by rw [r.1]; exact hd
  rw [Tm.val_eq]
  by_cases e : d = t
  · subst e
    simp [Tr.get_set_same, hlt, ha]
  · have := r.2 t
    rw [Tm.val_eq] at this
    simp only [Tr.get_set_other _ _ e]
    simpa [Array.getElem?_setIfInBounds_ne e] using this

theorem tmRel.putO {φ : Phi} {tm tm' : Tm} {tmps : Array Value} {dst : Option Tmp} {a : AV} {v : Value} (r : tmRel φ tm tmps) (ha : a.rel φ v) (h : Tm.putO dst a tm = some tm') (ds : List Deferred) :
    tmRel φ tm' (({ tmps := tmps, defers := ds } : Act).put dst v).tmps := by
  cases dst with
  | none =>
    have : some tm = some tm' := h
    cases this; exact r
  | some d => exact r.put ha h

theorem Act.put_defers' (a : Act) (dst : Option Tmp) (v : Value) : (a.put dst v).defers = a.defers := by cases dst <;> rfl

/-! ### Blocks and worlds -/
def entRel (φ : Phi) : List (Value × AV × Nat) → List MapEntry → Prop
  | [], [] => True
  | e :: r, m :: s => m.key = e.1 ∧ e.2.1.rel φ m.val ∧ m.born = e.2.2 ∧ entRel φ r s
  | _, _ => False

def objRel (φ : Phi) (w : World) (i : Img) : AObj → Prop
  | .cells t z n fz wr ex el => ∃ (arr : Array Value) (lo hi : Nat), w.heap[i.cb]? = some (.cells arr el (lo, hi)) ∧ arr.size = i.hi ∧ i.o + n ≤ i.hi ∧ (ex = true → i.o = 0 ∧ n = i.hi) ∧
      (fz = 0 → lo = hi ∨ arr.size ≤ lo) ∧ ∀ k v, k < n → (Cells.mk t z n fz wr ex el).at k = some v → ∃ v', arr[i.o + k]? = some v' ∧ v.rel φ v'
  | .map es clock => ∃ es' : Array MapEntry, w.heap[i.cb]? = some (.map es' clock) ∧ entRel φ es es'.toList
  | .strIter s pos => i.o = 0 ∧ w.heap[i.cb]? = some (.stringIter s pos)
  | .mapIter m since seen stepped => i.o = 0 ∧ ∃ m', w.heap[i.cb]? = some (.mapIter m' since seen.toArray stepped) ∧
      (match m with | none => m' = none | some r => ∃ j, φ r = some j ∧ m' = some j.cb)
  | .loop st p tm params assign body d => ∃ fn tmps j, φ d = some j ∧ w.heap[i.cb]? = some (.loop { state := st, pending := p, fn, tmps, params, assign, body, defers := j.cb }) ∧ tmRel φ tm tmps
  | .deferred shut => w.heap[i.cb]? = some (.deferred (if shut then none else some []))
  | .dead => True

def AObj.alive : AObj → Bool
  | .dead => false
  | _ => true

/-- Blocks that a run may write. -/
def AObj.own : AObj → Bool
  | .dead => false
  | .cells _ _ _ _ wr _ _ => wr
  | _ => true

structure Sim (φ : Phi) (W : AW) (w : World) : Prop where
  obj : ∀ b i, φ b = some i → b < W.nxt ∧ ∃ o, W.at b = some o ∧ objRel φ w i o
  inj : ∀ b b' i i' o o', φ b = some i → φ b' = some i' → W.at b = some o → W.at b' = some o' → o.alive = true → o'.alive = true → i.cb = i'.cb → b = b'
  glob : ∀ g, g < nG → ∃ i, φ g = some i ∧ i.cb = g ∧ i.o = 0

/-- Is a block of the model's one that the run may write? -/
def Owned (φ : Phi) (W : AW) (k : Nat) : Prop := ∃ b i o, φ b = some i ∧ i.cb = k ∧ W.at b = some o ∧ o.own = true

structure Step (φ : Phi) (W : AW) (w : World) (φ' : Phi) (W' : AW) (w' : World) : Prop where
  le : φ.le φ'
  size : w.heap.size ≤ w'.heap.size
  os : w'.os = w.os
  tape : w'.tape = w.tape
  output : w'.output = w.output
  frame : ∀ k, k < w.heap.size → ¬ Owned φ W k → w'.heap[k]? = w.heap[k]?
  owned : ∀ k, k < w.heap.size → Owned φ' W' k → Owned φ W k
  nxt : W.nxt ≤ W'.nxt
  out : ∀ b, b < W.nxt → φ b = none → φ' b = none ∧ W'.at b = W.at b

theorem Step.refl (φ : Phi) (W : AW) (w : World) : Step φ W w φ W w :=
  ⟨Phi.le.refl _, Nat.le_refl _, rfl, rfl, rfl, fun _ _ _ => rfl, fun _ _ h => h, Nat.le_refl _, fun _ _ h => ⟨h, rfl⟩⟩

theorem Step.trans {φ φ1 φ2 : Phi} {W W1 W2 : AW} {w w1 w2 : World} (h : Step φ W w φ1 W1 w1) (k : Step φ1 W1 w1 φ2 W2 w2) : Step φ W w φ2 W2 w2 where
  le := h.le.trans k.le
  size := Nat.le_trans h.size k.size
  os := k.os.trans h.os
  tape := k.tape.trans h.tape
  output := k.output.trans h.output
  frame := fun b hb hn => (k.frame b (Nat.lt_of_lt_of_le hb h.size) (fun ho => hn (h.owned b hb ho))).trans (h.frame b hb hn)
  owned := fun b hb ho => h.owned b hb (k.owned b (Nat.lt_of_lt_of_le hb h.size) ho)
  nxt := Nat.le_trans h.nxt k.nxt
  out := fun b hb hn => by
    obtain ⟨h1, h2⟩ := h.out b hb hn
    obtain ⟨k1, k2⟩ := k.out b (Nat.lt_of_lt_of_le hb h.nxt) h1
    exact ⟨k1, k2.trans h2⟩

/-- A draw alone. -/
theorem Step.drew {φ : Phi} {W : AW} {w w' : World} (hh : w'.heap = w.heap) (ho : w'.os = w.os) (ht : w'.tape = w.tape) (hp : w'.output = w.output) : Step φ W w φ W w' :=
  ⟨Phi.le.refl _, by rw [hh]; exact Nat.le_refl _, ho, ht, hp, fun _ _ _ => by rw [hh], fun _ _ h => h, Nat.le_refl _, fun _ _ h => ⟨h, rfl⟩⟩

/-! ### What is kept when worlds or maps turn -/
theorem entRel.mono {φ ψ : Phi} (h : φ.le ψ) : ∀ {a : List (Value × AV × Nat)} {b : List MapEntry}, entRel φ a b → entRel ψ a b
  | [], [], _ => trivial
  | _ :: _, _ :: _, ⟨h1, h2, h3, h4⟩ => ⟨h1, AV.rel_mono h _ _ h2, h3, entRel.mono h h4⟩

theorem objRel.mono {φ ψ : Phi} {w w' : World} {i : Img} {o : AObj} (h : φ.le ψ) (hw : w'.heap[i.cb]? = w.heap[i.cb]?) (r : objRel φ w i o) : objRel ψ w' i o := by
  cases o with
  | cells t z n fz wr ex el =>
    obtain ⟨arr, lo, hi, h1, h2, h3, h4, h5, h6⟩ := r
    exact ⟨arr, lo, hi, hw.trans h1, h2, h3, h4, h5, fun k v hk hv => let ⟨v', e, hr⟩ := h6 k v hk hv; ⟨v', e, AV.rel_mono h _ _ hr⟩⟩
  | map es clock => obtain ⟨es', h1, h2⟩ := r; exact ⟨es', hw.trans h1, h2.mono h⟩
  | strIter s pos => exact ⟨r.1, hw.trans r.2⟩
  | mapIter m since seen stepped =>
    obtain ⟨h0, m', h1, h2⟩ := r
    refine ⟨h0, m', hw.trans h1, ?_⟩
    cases m with
    | none => exact h2
    | some x => obtain ⟨j, hj, e⟩ := h2; exact ⟨j, h _ _ hj, e⟩
  | loop st p tm params assign body d =>
    obtain ⟨fn, tmps, j, hj, h1, h2⟩ := r
    exact ⟨fn, tmps, j, h _ _ hj, hw.trans h1, h2.mono h⟩
  | deferred shut => exact hw.trans r
  | dead => trivial

/-- The same heap, whatever was drawn. -/
theorem Sim.drew {φ : Phi} {W : AW} {w w' : World} (s : Sim φ W w) (hh : w'.heap = w.heap) : Sim φ W w' where
  obj := fun b i hb => by
    obtain ⟨h1, o, h3, h4⟩ := s.obj b i hb
    exact ⟨h1, o, h3, h4.mono (Phi.le.refl _) (by rw [hh])⟩
  inj := s.inj
  glob := s.glob

theorem AW.at_put_same (W : AW) (b : Nat) (o : AObj) : (W.put b o).at b = some o := by cases W; exact Tr.get_set_same _ _ _
theorem AW.at_put_other (W : AW) {b c : Nat} (o : AObj) (h : b ≠ c) : (W.put b o).at c = W.at c := by cases W; exact Tr.get_set_other _ _ h
theorem AW.nxt_put (W : AW) (b : Nat) (o : AObj) : (W.put b o).nxt = W.nxt := by cases W; rfl
theorem AW.at_new_same (W : AW) (o : AObj) : (W.new o).at W.nxt = some o := by cases W; exact Tr.get_set_same _ _ _
theorem AW.at_new_other (W : AW) {c : Nat} (o : AObj) (h : W.nxt ≠ c) : (W.new o).at c = W.at c := by cases W; exact Tr.get_set_other _ _ h
theorem AW.nxt_new (W : AW) (o : AObj) : (W.new o).nxt = W.nxt + 1 := by cases W; rfl

theorem AObj.own_alive {o : AObj} (h : o.own = true) : o.alive = true := by cases o <;> first | rfl | cases h

/-- What lives in memory lies there. -/
theorem objRel.lt {φ : Phi} {w : World} {i : Img} {o : AObj} (r : objRel φ w i o) (ha : o.alive = true) : i.cb < w.heap.size := by
  have key : ∀ {x : Obj}, w.heap[i.cb]? = some x → i.cb < w.heap.size := fun h => (Array.getElem?_eq_some_iff.1 h).1
  cases o with
  | cells t z n fz wr ex el => obtain ⟨arr, lo, hi, h1, _⟩ := r; exact key h1
  | map es clock => obtain ⟨es', h1, _⟩ := r; exact key h1
  | strIter s pos => exact key r.2
  | mapIter m since seen stepped => obtain ⟨_, m', h1, _⟩ := r; exact key h1
  | loop st p tm params assign body d => obtain ⟨_, _, _, _, h1, _⟩ := r; exact key h1
  | deferred shut => exact key r
  | dead => cases ha

/-- A block of the abstract heap that the model's world does not know of yet. -/
theorem Sim.newA {φ : Phi} {W : AW} {w : World} (s : Sim φ W w) (o : AObj) : φ W.nxt = none ∧ Sim φ (W.new o) w ∧ Step φ W w φ (W.new o) w := by
  have hn : φ W.nxt = none := by
    cases h : φ W.nxt with
    | none => rfl
    | some i => exact absurd (s.obj _ i h).1 (Nat.lt_irrefl _)
  have hat : ∀ b i, φ b = some i → (W.new o).at b = W.at b := fun b i hb => AW.at_new_other W o (fun e => by rw [e, hb] at hn; cases hn)
  refine ⟨hn, ⟨?_, ?_, s.glob⟩, ⟨Phi.le.refl _, Nat.le_refl _, rfl, rfl, rfl, fun _ _ _ => rfl, ?_, by rw [AW.nxt_new]; omega, ?_⟩⟩
  · intro b i hb
    obtain ⟨h1, o', h2, h3⟩ := s.obj b i hb
    exact ⟨by rw [AW.nxt_new]; omega, o', (hat b i hb).trans h2, h3⟩
  · intro b b' i i' o1 o2 hb hb' h1 h2
    rw [hat b i hb] at h1
    rw [hat b' i' hb'] at h2
    exact s.inj b b' i i' o1 o2 hb hb' h1 h2
  · rintro k hk ⟨b, i, o', hb, he, ho, hw⟩
    exact ⟨b, i, o', hb, he, (hat b i hb) ▸ ho, hw⟩
  · intro b hb hnone
    exact ⟨hnone, AW.at_new_other W o (by omega)⟩

def Phi.set (φ : Phi) (b : Nat) (i : Img) : Phi := fun x => if x = b then some i else φ x

theorem Phi.set_same (φ : Phi) (b : Nat) (i : Img) : φ.set b i b = some i := by simp [Phi.set]
theorem Phi.set_other (φ : Phi) {b c : Nat} (i : Img) (h : c ≠ b) : φ.set b i c = φ c := by simp [Phi.set, h]
theorem Phi.le_set {φ : Phi} {b : Nat} (i : Img) (h : φ b = none) : φ.le (φ.set b i) := by
  intro c j hc
  rw [Phi.set_other]
  · exact hc
  · intro e; rw [e, h] at hc; cases hc

/-- A block that the model's world now has, too: a new one of its own. -/
theorem Sim.know {φ : Phi} {W : AW} {w w' : World} {b : Nat} {i : Img} {o : AObj} (s : Sim φ W w) (hb : φ b = none) (hlt : b < W.nxt) (ho : W.at b = some o) (hi : i.cb = w.heap.size)
    (hold : ∀ k, k < w.heap.size → w'.heap[k]? = w.heap[k]?)
    (hr : objRel (φ.set b i) w' i o) : Sim (φ.set b i) W w' ∧ ∀ k, k < w.heap.size → Owned (φ.set b i) W k → Owned φ W k := by
  have hle := Phi.le_set i hb
  have hdom : ∀ c j, φ.set b i c = some j → (c = b ∧ j = i) ∨ (c ≠ b ∧ φ c = some j) := by
    intro c j hc
    by_cases e : c = b
    · subst e; rw [Phi.set_same] at hc; cases hc; exact .inl ⟨rfl, rfl⟩
    · rw [Phi.set_other _ _ e] at hc; exact .inr ⟨e, hc⟩
  refine ⟨⟨?_, ?_, ?_⟩, ?_⟩
  · intro c j hc
    rcases hdom c j hc with ⟨rfl, rfl⟩ | ⟨_, hc'⟩
    · exact ⟨hlt, o, ho, hr⟩
    · obtain ⟨h1, o', h2, h3⟩ := s.obj c j hc'
      refine ⟨h1, o', h2, ?_⟩
      cases ha : o'.alive with
      | true => exact h3.mono hle (hold _ (h3.lt ha))
      | false => cases o' <;> first | trivial | cases ha
  · intro c c' j j' o1 o2 hc hc' h1 h2 a1 a2 he
    rcases hdom c j hc with ⟨rfl, rfl⟩ | ⟨_, hc1⟩ <;> rcases hdom c' j' hc' with ⟨rfl, rfl⟩ | ⟨_, hc2⟩
    · rfl
    · obtain ⟨_, o', g2, g3⟩ := s.obj c' j' hc2
      rw [h2] at g2; cases g2
      have := g3.lt a2
      omega
    · obtain ⟨_, o', g2, g3⟩ := s.obj c j hc1
      rw [h1] at g2; cases g2
      have := g3.lt a1
      omega
    · exact s.inj c c' j j' o1 o2 hc1 hc2 h1 h2 a1 a2 he
  · intro g hg
    obtain ⟨j, hj, e⟩ := s.glob g hg
    exact ⟨j, hle g j hj, e⟩
  · rintro k hk ⟨c, j, o', hc, he, ho', hw⟩
    rcases hdom c j hc with ⟨rfl, rfl⟩ | ⟨_, hc'⟩
    · omega
    · exact ⟨c, j, o', hc', he, ho', hw⟩

/-- A new block, on both sides. -/
theorem Sim.new {φ : Phi} {W : AW} {w w' : World} {i : Img} {o : AObj} (s : Sim φ W w) (hi : i.cb = w.heap.size)
    (hold : ∀ k, k < w.heap.size → w'.heap[k]? = w.heap[k]?) (hsz : w.heap.size ≤ w'.heap.size) (hos : w'.os = w.os) (htp : w'.tape = w.tape) (hop : w'.output = w.output)
    (hr : objRel (φ.set W.nxt i) w' i o) : Sim (φ.set W.nxt i) (W.new o) w' ∧ Step φ W w (φ.set W.nxt i) (W.new o) w' := by
  obtain ⟨hn, s1, t1⟩ := s.newA o
  obtain ⟨s2, h2⟩ := s1.know hn (by rw [AW.nxt_new]; omega) (AW.at_new_same W o) hi hold hr
  refine ⟨s2, ⟨Phi.le_set i hn, hsz, hos, htp, hop, fun k hk _ => hold k hk, fun k hk h => t1.owned k hk (h2 k hk h), t1.nxt, fun b hb hnone => ?_⟩⟩
  have hne : b ≠ W.nxt := by omega
  exact ⟨by rw [Phi.set_other _ _ hne]; exact hnone, AW.at_new_other W o (fun e => hne e.symm)⟩

/-- A block that the run owns is turned. -/
theorem Sim.turn {φ : Phi} {W : AW} {w w' : World} {b : Nat} {i : Img} {o o' : AObj} (s : Sim φ W w) (hb : φ b = some i) (ho : W.at b = some o) (hown : o.own = true)
    (hother : ∀ k, k ≠ i.cb → w'.heap[k]? = w.heap[k]?) (hsz : w'.heap.size = w.heap.size) (hos : w'.os = w.os) (htp : w'.tape = w.tape) (hop : w'.output = w.output)
    (hr : objRel φ w' i o') : Sim φ (W.put b o') w' ∧ Step φ W w φ (W.put b o') w' := by
  have hal := AObj.own_alive hown
  refine ⟨⟨?_, ?_, s.glob⟩, ⟨Phi.le.refl _, by omega, hos, htp, hop, ?_, ?_, by rw [AW.nxt_put]; exact Nat.le_refl _, ?_⟩⟩
  · intro c j hc
    by_cases e : c = b
    · subst e
      rw [hb] at hc; cases hc
      exact ⟨by rw [AW.nxt_put]; exact (s.obj c i hb).1, o', AW.at_put_same W c o', hr⟩
    · obtain ⟨h1, o2, h2, h3⟩ := s.obj c j hc
      refine ⟨by rw [AW.nxt_put]; exact h1, o2, (AW.at_put_other W o' (fun h => e h.symm)).trans h2, ?_⟩
      cases ha : o2.alive with
      | true => exact h3.mono (Phi.le.refl _) (hother _ (fun h => e (s.inj c b j i o2 o hc hb h2 ho ha hal h)))
      | false => cases o2 <;> first | trivial | cases ha
  · intro c c' j j' o1 o2 hc hc' h1 h2 a1 a2 he
    have real : ∀ {x : Nat} {y : Img} {z : AObj}, φ x = some y → (W.put b o').at x = some z → z.alive = true → ∃ z', W.at x = some z' ∧ z'.alive = true := by
      intro x y z hx hz az
      by_cases e : x = b
      · subst e; exact ⟨o, ho, hal⟩
      · exact ⟨z, (AW.at_put_other W o' (fun h => e h.symm)) ▸ hz, az⟩
    obtain ⟨z1, g1, k1⟩ := real hc h1 a1
    obtain ⟨z2, g2, k2⟩ := real hc' h2 a2
    exact s.inj c c' j j' z1 z2 hc hc' g1 g2 k1 k2 he
  · intro k hk hno
    refine hother k (fun e => hno ⟨b, i, o, hb, e.symm, ho, hown⟩)
  · rintro k hk ⟨c, j, o2, hc, he, h2, hw⟩
    by_cases e : c = b
    · subst e; rw [hb] at hc; cases hc; exact ⟨c, i, o, hb, he, ho, hown⟩
    · exact ⟨c, j, o2, hc, he, (AW.at_put_other W o' (fun h => e h.symm)) ▸ h2, hw⟩
  · intro c hc hn
    refine ⟨hn, AW.at_put_other W o' (fun e => by rw [← e, hb] at hn; cases hn)⟩

/-- What is behind an abstract world that knows more blocks: nothing more. -/
theorem Sim.same {φ : Phi} {W W' : AW} {w : World} (s : Sim φ W w) (hn : W.nxt ≤ W'.nxt) (h : ∀ b i, φ b = some i → W'.at b = W.at b) : Sim φ W' w where
  obj := fun b i hb => by
    obtain ⟨h1, o, h2, h3⟩ := s.obj b i hb
    exact ⟨Nat.lt_of_lt_of_le h1 hn, o, (h b i hb).trans h2, h3⟩
  inj := fun b b' i i' o o' hb hb' h1 h2 => by
    rw [h b i hb] at h1
    rw [h b' i' hb'] at h2
    exact s.inj b b' i i' o o' hb hb' h1 h2
  glob := s.glob

end Go.Ab
