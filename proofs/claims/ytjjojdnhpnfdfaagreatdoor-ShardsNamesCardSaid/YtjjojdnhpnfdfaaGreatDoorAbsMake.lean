import Derived.Test.YtjjojdnhpnfdfaaGreatDoorAbsGive4
set_option linter.all false
/-
  OPERATIONS THAT MAKE A BLOCK.
-/
namespace Go.Ab
open Go
section
variable {P : Program} {φ : Phi} {w : World}

/-- A run that makes one block: whatever its number is in the abstract heap, its image is the model's newest. -/
def MakeOk (P : Program) (φ : Phi) (w : World) (o : AObj) (f : Nat → AV) (s : Sem Value) : Prop :=
  ∀ b, φ b = none → ∃ (i : Img) (v : Value) (w' : World), s.run P w = .ok v w' ∧ i.cb = w.heap.size ∧ i.o = 0 ∧ (∀ k, k < w.heap.size → w'.heap[k]? = w.heap[k]?) ∧ w.heap.size ≤ w'.heap.size ∧
    w'.os = w.os ∧ w'.tape = w.tape ∧ w'.output = w.output ∧ objRel (φ.set b i) w' i o ∧ (f b).rel (φ.set b i) v

theorem range_zero' : Array.range 0 = #[] := by apply Array.ext'; simp [Array.toList_range]

theorem push_old (h : Array Obj) (o : Obj) (k : Nat) (hk : k < h.size) : (h.push o)[k]? = h[k]? := by simp [Array.getElem?_push, Nat.ne_of_lt hk]

/-- A row of cells. -/
theorem MakeOk.row {el : TypeId} {cells : Array Value} {t : Tr AV} {z : List AV} {n : Nat} {ex : Bool} {f : Nat → AV} {s : Sem Value} {v : Value}
    (hrun : s.run P w = .ok v { w with heap := w.heap.push (.cells cells el) }) (hn : n = cells.size)
    (hc : ∀ k a, k < n → (Cells.mk t z n 0 true ex el).at k = some a → ∃ v', cells[k]? = some v' ∧ a.rel φ v')
    (hf : ∀ ψ : Phi, ∀ b, ψ b = some ⟨w.heap.size, 0, cells.size⟩ → (f b).rel ψ v) : MakeOk P φ w (.cells t z n 0 true ex el) f s := by
  intro b hb
  refine ⟨⟨w.heap.size, 0, cells.size⟩, v, _, hrun, rfl, rfl, fun k hk => push_old _ _ _ hk, by simp, rfl, rfl, rfl, ?_, hf _ b (Phi.set_same _ _ _)⟩
  refine ⟨cells, 0, 0, by simp, rfl, by simp [hn], fun _ => ⟨rfl, hn⟩, fun _ => .inl rfl, ?_⟩
  intro k a hk ha
  obtain ⟨v', h1, h2⟩ := hc k a hk ha
  exact ⟨v', by simpa using h1, AV.rel_mono (Phi.le_set _ hb) _ _ h2⟩

theorem ofCells_at {el : TypeId} {l : List AV} {k : Nat} {a : AV} (hk : k < l.length) (h : (Cells.mk .leaf l l.length 0 true true el).at k = some a) : l[k]? = some a := by
  rw [Cells.at_eq] at h
  simp only [Tr.get_leaf] at h
  rwa [Nat.mod_eq_of_lt hk] at h

theorem MakeOk.ofCells {el : TypeId} {cells : Array Value} {l : List AV} {f : Nat → AV} {s : Sem Value} {v : Value}
    (hrun : s.run P w = .ok v { w with heap := w.heap.push (.cells cells el) }) (hl : relL φ l cells.toList)
    (hf : ∀ ψ : Phi, ∀ b, ψ b = some ⟨w.heap.size, 0, cells.size⟩ → (f b).rel ψ v) : MakeOk P φ w (Ab.ofCells el l) f s := by
  have hlen := relL_length hl
  refine MakeOk.row hrun (by simpa using hlen.symm) (fun k a hk ha => ?_) hf
  obtain ⟨v', h1, h2⟩ := relL_get hl (ofCells_at hk ha)
  exact ⟨v', by simpa using h1, h2⟩

theorem aAlloc_ok {elem : TypeId} {o : AObj} {f : Nat → AV} (old : Value) (h : aAlloc P elem = some (o, f)) : MakeOk P φ w o f (Instr.alloc elem true old) := by
  unfold aAlloc at h
  split at h
  · rename_i z hz
    cases h
    refine MakeOk.ofCells (v := .pointer (some ⟨w.heap.size, 0, none⟩)) ?_ (relL_lits _) (fun ψ b hb => ⟨_, hb, rfl⟩)
    simp [Instr.alloc, run_zero hz, newVar, newRow]
  · cases h

theorem aBox_ok {el : TypeId} {x : AV} {v : Value} {o : AObj} {f : Nat → AV} (h : aBox el x = some (o, f)) (hx : x.rel φ v) : MakeOk P φ w o f (Instr.box el v) := by
  unfold aBox at h
  cases h
  refine MakeOk.ofCells (v := .pointer (some ⟨w.heap.size, 0, none⟩)) ?_ (AV.cells_rel hx) (fun ψ b hb => ⟨_, hb, rfl⟩)
  simp [Instr.box, newVar, newRow]

theorem zeroRow_rel {zv : Array Value} {n : Nat} (hz : 0 < zv.size) : relL φ (zeroRow (zv.toList.map .lit) n) ((Array.range n).map fun i => zv[i % zv.size]!).toList := by
  refine relL_of_get (by simp [zeroRow]) ?_
  intro k a v ha hv
  have hk : k < n := by have := (List.getElem?_eq_some_iff.1 ha).1; simpa [zeroRow] using this
  have hm : k % zv.size < zv.size := Nat.mod_lt _ hz
  simp [zeroRow, hk] at ha hv
  rw [Array.getElem?_eq_getElem hm] at ha
  simp [hm] at ha hv
  rw [← ha, ← hv]
  rfl

theorem aBuildSlice_ok {t : TypeId} {len : Nat} {parts : List (Nat × AV)} {parts' : Array (Nat × Value)} {o : AObj} {f : Nat → AV} (h : aBuildSlice P t len parts = some (o, f))
    (h1 : parts'.toList.map (·.1) = parts.map (·.1)) (h2 : relL φ (parts.map (·.2)) (parts'.toList.map (·.2))) : MakeOk P φ w o f (Instr.buildSlice t len parts') := by
  obtain ⟨e, he, h3⟩ := ob_some h
  obtain ⟨z, hz, h4⟩ := ob_some h3
  obtain ⟨ht, h5⟩ := sel_some h4 rfl
  obtain ⟨l, hl, h6⟩ := ob_some h5
  cases h6
  simp only [an_eq, Bool.and_eq_true] at ht
  obtain ⟨hle, hpos, hlen⟩ := ht
  have hle : len * e.2 ≤ 1000000 := Nat.le_of_ble_eq_true hle
  have hpos : 0 < e.2 := Nat.blt_eq ▸ hpos
  have hlen : z.length = e.2 := Nat.eq_of_beq_eq_true hlen
  obtain ⟨hu, hs⟩ := sliceElem_some he
  obtain ⟨zv, hzv, rfl⟩ := zeroCells_some hz
  have hzs : zv.cells.size = e.2 := by simpa using hlen
  obtain ⟨cells, hfill, hr⟩ := fill_ok (cells' := (Array.range (len * e.2)).map fun i => zv.cells[i % zv.cells.size]!) hl (zeroRow_rel (by omega)) h1 h2
  have hcl : cells.size = len * e.2 := by
    have := relL_length hr
    have g : ∀ {place : Nat → Option (Nat × Nat)} {ps : List (Nat × AV)} {cs l : List AV}, fillL place cs ps = some l → l.length = cs.length := by
      intro place ps
      induction ps with
      | nil => intro cs l h; simp [fillL] at h; subst h; rfl
      | cons p ps ih =>
        intro cs l h
        obtain ⟨i, v⟩ := p
        simp only [fillL] at h
        obtain ⟨q, hq, h3⟩ := ob_some h
        obtain ⟨ht, h4⟩ := sel_some h3 rfl
        simp only [an_eq, Bool.and_eq_true] at ht
        have a1 : v.cells.length = q.2 := Nat.eq_of_beq_eq_true ht.1
        have a2 : q.1 + q.2 ≤ cs.length := Nat.le_of_ble_eq_true ht.2
        rw [ih h4]
        simp only [List.length_append, List.length_take, List.length_drop, Nat.add_eq]
        omega
    have h' := g hl
    simp at this
    rw [this, h']
    simp [zeroRow]
  refine MakeOk.ofCells (cells := cells) (v := .slice (some ⟨w.heap.size, 0, none⟩) len len) ?_ hr (fun ψ b hb => ⟨_, 0, len, hb, rfl, Nat.le_refl _, .inr rfl, fun _ => rfl, fun e => absurd rfl e⟩)
  simp only [Instr.buildSlice, Sem.run_bind, run_und hu, Result.andThen_ok, run_size hs]
  rw [if_neg (by omega)]
  by_cases h0 : len * e.2 = 0
  · have hcells : cells = #[] := by rw [h0] at hcl; exact Array.size_eq_zero_iff.1 hcl
    have hfe : Instr.fill (fun i => some (i * e.2, e.2)) ((Array.range (len * e.2)).map fun i => (#[] : Array Value)[i % (#[] : Array Value).size]!) parts'.toList = some cells := by
      rw [← hfill, h0, range_zero', Array.map_empty, Array.map_empty]; rfl
    rw [if_pos h0]
    simp only [Sem.run_bind, Result.andThen_ok, Sem.run_pure, hfe, newRow, run_newObj]
  · have hfe : Instr.fill (fun i => some (i * e.2, e.2)) ((Array.range (len * e.2)).map fun i => zv.cells[i % zv.cells.size]!) parts'.toList = some cells := hfill
    rw [if_neg h0]
    simp only [Sem.run_bind, run_zero hzv, Result.andThen_ok, Sem.run_pure, hfe, newRow, run_newObj]

theorem run_asInt (k : IntKind) (n : Int) : (asInt (.int k n)).run P w = .ok n w := rfl

theorem bytesO_run {t : TypeId} {n : Nat} (h : bytesO P t = some n) : ∃ i, infoO P t = some i ∧ i.bytes = n := by
  unfold bytesO at h
  split at h
  · rename_i i hi; simp at h; exact ⟨i, hi, h⟩
  · cases h

theorem aMakeSlice_ok {t : TypeId} {la ca : AV} {lv cv : Value} {o : AObj} {f : Nat → AV} (h : aMakeSlice P t la ca = some (o, f)) (hl : la.rel φ lv) (hc : ca.rel φ cv) :
    MakeOk P φ w o f (Instr.makeSlice t lv cv) := by
  obtain ⟨e, he, h1⟩ := ob_some h
  obtain ⟨bytes, hb, h2⟩ := ob_some h1
  obtain ⟨z, hz, h3⟩ := ob_some h2
  obtain ⟨l, hln, h4⟩ := ob_some h3
  obtain ⟨c, hcn, h5⟩ := ob_some h4
  obtain ⟨ht, h6⟩ := sel_some h5 rfl
  cases h6
  simp only [an_eq, Bool.and_eq_true] at ht
  obtain ⟨g1, g2, g3, g4, g5⟩ := ht
  have g1 : l ≤ c := Nat.le_of_ble_eq_true g1
  have g2 : c ≤ 1000000000 := Nat.le_of_ble_eq_true g2
  have g3 : bytes * c ≤ 100000000 := Nat.le_of_ble_eq_true g3
  have g4 : 0 < e.2 := Nat.blt_eq ▸ g4
  have g5 : z.length = e.2 := Nat.eq_of_beq_eq_true g5
  obtain ⟨jk, rfl⟩ := AV.nat?_some hln
  obtain ⟨kk, rfl⟩ := AV.nat?_some hcn
  cases lit_rel hl
  cases lit_rel hc
  obtain ⟨hu, hs⟩ := sliceElem_some he
  obtain ⟨info, hi, rfl⟩ := bytesO_run hb
  obtain ⟨zv, hzv, rfl⟩ := zeroCells_some hz
  have hzs : zv.cells.size = e.2 := by simpa using g5
  have wl : IntKind.i64.wrap (Int.ofNat l) = l := by rw [IntKind.wrap_i64]; show ((l : Int) + _) % _ - _ = (l : Int); omega
  have wc : IntKind.i64.wrap (Int.ofNat c) = c := by rw [IntKind.wrap_i64]; show ((c : Int) + _) % _ - _ = (c : Int); omega
  have hmul : ((info.bytes : Int) * (c : Int)) ≤ 100000000 := by
    have : ((info.bytes * c : Nat) : Int) ≤ 100000000 := Int.ofNat_le.2 g3
    rwa [Int.natCast_mul] at this
  refine MakeOk.row (cells := (Array.range (c * e.2)).map fun i => zv.cells[i % zv.cells.size]!) (v := .slice (some ⟨w.heap.size, 0, none⟩) l c) ?_ (by simp) ?_
    (fun ψ b hb => ⟨_, 0, c, hb, rfl, g1, .inr rfl, fun _ => rfl, fun e => absurd rfl e⟩)
  · simp only [Instr.makeSlice, Sem.run_bind, run_und hu, Result.andThen_ok, run_asInt, run_info hi, wl, wc]
    have hcond : ¬ (((decide ((c : Int) < 0) || decide ((info.bytes : Int) * (c : Int) > 2 ^ 48)) || decide ((l : Int) < 0) || decide ((l : Int) > (c : Int))) = true) := by
      have h1 : (info.bytes : Int) * (c : Int) ≤ 100000000 := hmul
      simp only [Bool.or_eq_true, decide_eq_true_eq, not_or]
      refine ⟨⟨⟨?_, ?_⟩, ?_⟩, ?_⟩ <;> omega
    rw [if_neg hcond]
    simp only [Sem.run_bind, Result.andThen_ok, Sem.run_pure, run_askRoom, run_size hs, Int.toNat_natCast]
    by_cases h0 : c * e.2 = 0
    · rw [if_pos h0]
      simp only [Sem.run_bind, Result.andThen_ok, Sem.run_pure, newRow, run_newObj, h0, range_zero', Array.map_empty]
    · rw [if_neg h0]
      simp only [Sem.run_bind, Result.andThen_ok, Sem.run_pure, run_zero hzv, newRow, run_newObj]
  · intro k a hk ha
    rw [Cells.at_eq] at ha
    simp only [Tr.get_leaf] at ha
    have hm : k % zv.cells.size < zv.cells.size := Nat.mod_lt _ (by omega)
    have hk' : k < c * e.2 := hk
    simp only [List.length_map, Array.length_toList, List.getElem?_map, Array.getElem?_toList] at ha
    rw [Array.getElem?_eq_getElem hm] at ha
    simp at ha
    refine ⟨zv.cells[k % zv.cells.size], ?_, ?_⟩
    · simp [hk', hm]
    · rw [← ha]; rfl

theorem aMakeMap_ok {t : TypeId} {r : Option Operand} {ev : Operand → AV} {ρ : Operand → Value} {o : AObj} {f : Nat → AV} (h : aMakeMap P ev t r = some (o, f)) (hev : ∀ y, (ev y).rel φ (ρ y)) :
    MakeOk P φ w o f (Instr.makeMap t (r.map ρ)) := by
  have key : o = .map [] 0 ∧ (f = fun b => .mapr b) ∧ (Instr.makeMap t (r.map ρ)).run P w = .ok (.map (some w.heap.size)) { w with heap := w.heap.push (.map #[] 0) } := by
    unfold aMakeMap at h
    split at h
    · cases h
      refine ⟨rfl, rfl, ?_⟩
      simp [Instr.makeMap]
    · rename_i r
      split at h
      · rename_i k e j n hu he
        cases h
        refine ⟨rfl, rfl, ?_⟩
        have := hev r
        rw [he] at this
        have : ρ r = .int j n := this
        simp [Instr.makeMap, run_und hu, this, run_asInt]
      · cases h
  obtain ⟨rfl, rfl, hrun⟩ := key
  intro b hb
  refine ⟨⟨w.heap.size, 0, 0⟩, _, _, hrun, rfl, rfl, fun k hk => push_old _ _ _ hk, by simp, rfl, rfl, rfl, ⟨#[], by simp, trivial⟩, ⟨_, Phi.set_same _ _ _, rfl⟩⟩

theorem aToBytes_ok {src dst : TypeId} {e : TypeId} {s : ByteArray} {o : AObj} {f : Nat → AV} (h : aToBytes P e s = some (o, f)) (hd : undO P dst = some (.slice e)) (hs : undO P src = some .string) :
    MakeOk P φ w o f (convert src dst (.string s)) := by
  unfold aToBytes at h
  split at h
  · rename_i hu
    cases h
    intro b hb
    have hcut : ∀ t, s.size ≤ (Question.appendCap s.size 0 e).cut t := fun t => Nat.le_add_right _ _
    obtain ⟨cap, hcap⟩ : ∃ cap, cap = (Question.appendCap s.size 0 e).cut (w.tape w.drawn (.appendCap s.size 0 e)) := ⟨_, rfl⟩
    have hle : s.size ≤ cap := hcap ▸ hcut _
    have hss : s.data.size = s.size := rfl
    obtain ⟨arr, harr⟩ : ∃ arr : Array Value, arr = (s.data.map fun b => Value.int .u8 b.toNat) ++ Array.replicate (cap - s.size) (Value.int .u8 0) := ⟨_, rfl⟩
    have hsz : arr.size = cap := by rw [harr]; simp; omega
    refine ⟨⟨w.heap.size, 0, cap⟩, .slice (some ⟨w.heap.size, 0, none⟩) s.size cap, { w with heap := w.heap.push (.cells arr e (cap, cap + 1)), drawn := w.drawn + 1 }, ?_, rfl, rfl, fun k hk => push_old _ _ _ hk, by simp, rfl, rfl, rfl, ?_, ?_⟩
    · have hch : (choose (.appendCap s.size 0 e)).run P w = .ok cap { w with drawn := w.drawn + 1 } := by rw [hcap]; rfl
      simp only [convert, Sem.run_bind, run_und hs, run_und hd, Result.andThen_ok, run_und hu, Conv.stringToBytes, hch, newRow, run_newObj, Sem.run_pure, markStringish, run_shape, ← harr]
      simp only [World.shape?, Array.getElem?_push_size, run_freeze, Sem.run_bind, Result.andThen_ok, Sem.run_pure]
      have hm : ∀ (g : Obj → Obj), (w.heap.push (.cells arr e)).modify w.heap.size g = w.heap.push (g (.cells arr e)) := by
        intro g
        apply Array.ext_getElem?
        intro k
        by_cases h : w.heap.size = k
        · subst h; rw [Array.getElem?_modify, if_pos rfl, Array.getElem?_push_size, Array.getElem?_push_size]; rfl
        · rw [Array.getElem?_modify, if_neg h, Array.getElem?_push, Array.getElem?_push, if_neg (Ne.symm h), if_neg (Ne.symm h)]
      simp [World.freeze, hm, hsz]
    · refine ⟨arr, cap, cap + 1, by simp, hsz, by simpa using hle, fun e => (by cases e), fun _ => .inr (by omega), ?_⟩
      intro k a hk ha
      rw [Cells.at_eq] at ha
      have hlen : (bytesOfStr s).length = s.size := by simp [bytesOfStr, hss]
      simp only [Tr.get_leaf, hlen, Nat.mod_eq_of_lt hk] at ha
      have hk' : k < s.data.size := hk
      simp [bytesOfStr] at ha
      obtain ⟨u, hu1, rfl⟩ := ha
      refine ⟨.int .u8 u.toNat, ?_, rfl⟩
      rw [harr, Nat.zero_add, Array.getElem?_append_left (by simpa using hk'), Array.getElem?_map, hu1]
      rfl
    · exact ⟨_, 0, cap, Phi.set_same _ _ _, rfl, hle, .inr rfl, fun e => (by cases e), fun _ => ⟨hle, .inr (by simp)⟩⟩
  · cases h
end
end Go.Ab
