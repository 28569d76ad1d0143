import Derived.Test.YtjjojdnhpnfdfaaGreatDoorAbsGive2
set_option linter.all false
/-
  SLICES, ADDRESSES, INDEXES, ASSERTIONS.
-/
namespace Go.Ab
open Go
section
variable {P : Program} {φ : Phi} {w : World}

def optRel (φ : Phi) : Option AV → Option Value → Prop
  | none, none => True
  | some a, some v => a.rel φ v
  | _, _ => False

theorem evO_rel {ev : Operand → AV} {ρ : Operand → Value} (hev : ∀ y, (ev y).rel φ (ρ y)) (x : Option Operand) : optRel φ (evO ev x) (x.map ρ) := by
  cases x with
  | none => trivial
  | some x => exact hev x

theorem sliceBound_ok {v : AV} {v' : Value} {most most' i : Nat} {code : BoundsCode} (h : boundO (some v) most 0 = some i) (r : v.rel φ v') (hm : most ≤ most') :
    (Instr.sliceBound v' most' code).run P w = .ok i w ∧ i ≤ most := by
  obtain ⟨n, hn, h1⟩ := ob_some (show ob v.nat? _ = some i from h)
  obtain ⟨hb, h2⟩ := sel_some h1 rfl
  simp only [Option.some.injEq] at h2
  subst h2
  obtain ⟨k, rfl⟩ := AV.nat?_some hn
  cases lit_rel r
  have hb : n ≤ most := Nat.le_of_ble_eq_true hb
  refine ⟨?_, hb⟩
  simp only [Instr.sliceBound, asIntOf, pure_bind]
  rw [if_pos ⟨Int.natCast_nonneg n, by show (n : Int) ≤ _; omega⟩]
  rfl

theorem boundO_none (most d : Nat) : boundO none most d = some d := rfl
theorem boundO_dflt {v : AV} {most d e i : Nat} (h : boundO (some v) most d = some i) : boundO (some v) most e = some i := h

/-- The bounds of a slice expression: the model's top is at least the one that is known. -/
theorem sliceBounds_ok {isSlice : Bool} {low high max : Option AV} {low' high' max' : Option Value} {len cap cap' m h l : Nat} (hmh : (max.isSome && high.isNone) = false)
    (hm : boundO max cap cap = some m) (hh : boundO high m len = some h) (hl : boundO low h 0 = some l) (rl : optRel φ low low') (rh : optRel φ high high') (rm : optRel φ max max') (hc : cap ≤ cap') (hlc : len ≤ cap') :
    ∃ m', (Instr.sliceBounds isSlice len cap' low' high' max').run P w = .ok (l, h, m') w ∧ (max = none → m' = cap' ∧ m = cap) ∧ (max ≠ none → m' = m ∧ m ≤ cap) ∧ l ≤ h ∧ h ≤ m' := by
  have lowOk : (low' = none ∧ l = 0) ∨ ∃ v, low' = some v ∧ ∀ code, (Instr.sliceBound v h code).run P w = .ok l w := by
    cases low with
    | none => cases low' with
      | none => cases hl; exact .inl ⟨rfl, rfl⟩
      | some v => exact rl.elim
    | some a => cases low' with
      | none => exact rl.elim
      | some v => exact .inr ⟨v, rfl, fun code => (sliceBound_ok (boundO_dflt hl) rl (Nat.le_refl _)).1⟩
  have lle : l ≤ h := by
    cases low with
    | none => cases hl; exact Nat.zero_le _
    | some a => cases low' with
      | none => exact rl.elim
      | some v => exact (sliceBound_ok (P := P) (w := w) (code := .sliceB) (boundO_dflt hl) rl (Nat.le_refl _)).2
  cases max with
  | none => cases max' with
    | some v => exact rm.elim
    | none =>
      cases hm
      have hle : h ≤ cap' := by
        cases high with
        | none => cases hh; exact hlc
        | some a => cases high' with
          | none => exact rh.elim
          | some v => exact Nat.le_trans (sliceBound_ok (P := P) (w := w) (code := .sliceB) (boundO_dflt hh) rh (Nat.le_refl _)).2 hc
      refine ⟨cap', ?_, fun _ => ⟨rfl, rfl⟩, fun e => absurd rfl e, lle, hle⟩
      have highOk : (high' = none ∧ h = len) ∨ ∃ v, high' = some v ∧ ∀ code, (Instr.sliceBound v cap' code).run P w = .ok h w := by
        cases high with
        | none => cases high' with
          | none => cases hh; exact .inl ⟨rfl, rfl⟩
          | some v => exact rh.elim
        | some a => cases high' with
          | none => exact rh.elim
          | some v => exact .inr ⟨v, rfl, fun code => (sliceBound_ok (boundO_dflt hh) rh hc).1⟩
      rcases lowOk with ⟨rfl, rfl⟩ | ⟨v, rfl, hv⟩ <;> rcases highOk with ⟨rfl, rfl⟩ | ⟨u, rfl, hu⟩ <;> simp [Instr.sliceBounds, *]
  | some a => cases max' with
    | none => exact rm.elim
    | some v =>
      obtain ⟨_, hmle⟩ := sliceBound_ok (P := P) (w := w) (code := .slice3Acap) (boundO_dflt hm) rm hc
      have hmr : ∀ code, (Instr.sliceBound v cap' code).run P w = .ok m w := fun code => (sliceBound_ok (boundO_dflt hm) rm hc).1
      cases high with
      | none => simp at hmh
      | some b => cases high' with
        | none => exact rh.elim
        | some u =>
          have hhr : ∀ code, (Instr.sliceBound u m code).run P w = .ok h w := fun code => (sliceBound_ok (boundO_dflt hh) rh (Nat.le_refl m)).1
          have hle : h ≤ m := (sliceBound_ok (P := P) (w := w) (code := .sliceB) (boundO_dflt hh) rh (Nat.le_refl m)).2
          refine ⟨m, ?_, fun e => (by cases e), fun _ => ⟨rfl, hmle⟩, lle, hle⟩
          rcases lowOk with ⟨rfl, rfl⟩ | ⟨v, rfl, hv⟩ <;> simp [Instr.sliceBounds, *]

theorem aSliceRow_ok {size b off len cap sz : Nat} {low high max : Option AV} {low' high' max' : Option Value} {z : AV} {i : Img} {x cap' : Nat} {isSlice : Bool} (h : aSliceRow size b off len cap sz low high max = some z)
    (rl : optRel φ low low') (rh : optRel φ high high') (rm : optRel φ max max') (hb : φ b = some i) (hlc : len ≤ cap') (hx : cap' = 0 ∨ x = i.o + off) (h0 : sz = 0 → cap' = cap) (h1 : sz ≠ 0 → cap ≤ cap' ∧ (cap' = 0 ∨ x + cap' * sz ≤ i.hi)) :
    ∃ l hh m', (Instr.sliceBounds isSlice len cap' low' high' max').run P w = .ok (l, hh, m') w ∧
      z.rel φ (.slice (some (if m' = l then ⟨i.cb, x, none⟩ else (⟨i.cb, x, none⟩ : Addr).add (l * size))) (hh - l) (m' - l)) := by
  unfold aSliceRow at h
  have hmh : (max.isSome && high.isNone) = false := by
    cases e : an max.isSome high.isNone
    · rw [an_eq] at e; exact e
    · rw [e, sel_true] at h; cases h
  have hf : an max.isSome high.isNone = false := by rw [an_eq]; exact hmh
  rw [hf, sel_false] at h
  obtain ⟨m, hm, h2⟩ := ob_some h
  obtain ⟨hi', hh, h3⟩ := ob_some h2
  obtain ⟨l, hl, h4⟩ := ob_some h3
  have hcap : cap ≤ cap' := by
    by_cases e : sz = 0
    · exact Nat.le_of_eq (h0 e).symm
    · exact (h1 e).1
  obtain ⟨m', hrun, g1, g2, hle, hle2⟩ := sliceBounds_ok (P := P) (w := w) (isSlice := isSlice) hmh hm hh hl rl rh rm hcap hlc
  have hlen : hi' - l ≤ m' - l := by omega
  refine ⟨l, hi', m', hrun, ?_⟩
  simp only at h4
  obtain ⟨hchk, h5⟩ := sel_some h4 rfl
  simp only [Option.some.injEq] at h5
  subst h5
  rw [orr_eq] at hchk
  -- the two cases
  have hsz : ∀ {s : Nat}, szOf max sz = s → (s = 0 → m' = m) ∧ (s ≠ 0 → s = sz ∧ m' = cap' ∧ m = cap ∧ max = none) := by
    intro s hs
    cases hmx : max with
    | none =>
      rw [hmx] at hs
      have hs : sz = s := hs
      subst hs
      obtain ⟨e1, e2⟩ := g1 hmx
      exact ⟨fun e => by rw [e1, e2, h0 e], fun _ => ⟨rfl, e1, e2, rfl⟩⟩
    | some a =>
      rw [hmx] at hs
      have hs : 0 = s := hs
      subst hs
      exact ⟨fun _ => (g2 (by simp [hmx])).1, fun e => absurd rfl e⟩
  generalize hs : szOf max sz = s at hchk ⊢
  obtain ⟨k0, k1⟩ := hsz hs
  have hm'cap : m' ≤ cap' := by
    cases hmx : max with
    | none => exact Nat.le_of_eq (g1 hmx).1
    | some a => have := g2 (by simp [hmx]); omega
  by_cases e0 : s = 0
  · subst e0
    have em := k0 rfl
    subst em
    by_cases eml : m' = l
    · subst eml
      exact ⟨i, x, 0, hb, by rw [if_pos rfl, Nat.sub_self]; rfl, by rw [Nat.sub_self] at hlen; exact hlen, .inl rfl, fun _ => (Nat.sub_self _).symm, fun e => absurd rfl e⟩
    · rw [if_neg eml, addr_add]
      have hsel : sel (an (Nat.beq m' l) (Nat.beq 0 0)) off (Nat.add off (Nat.mul l size)) = off + l * size := by
        have : Nat.beq m' l = false := by rw [beq_decide]; simp [eml]
        rw [this]; rfl
      refine ⟨i, _, _, hb, rfl, hlen, ?_, fun _ => rfl, fun e => absurd rfl e⟩
      by_cases hz : m' - l = 0
      · exact .inl hz
      · right
        rw [hsel]
        rcases hx with hx | hx
        · omega
        · omega
  · obtain ⟨es, em', em, hmx⟩ := k1 e0
    subst es; subst em'; subst em
    have hss : s = size := by
      have hz : Nat.beq s 0 = false := by rw [beq_decide]; simp [e0]
      rw [hz] at hchk
      exact Nat.eq_of_beq_eq_true (by simpa using hchk)
    obtain ⟨j1, j2⟩ := h1 e0
    have hsel : sel (an (Nat.beq m l) (Nat.beq s 0)) off (Nat.add off (Nat.mul l size)) = off + l * size := by
      have hz : Nat.beq s 0 = false := by rw [beq_decide]; simp [e0]
      rw [hz, an_eq, Bool.and_false]; rfl
    rw [hsel]
    by_cases hz : m' - l = 0
    · by_cases eml : m' = l
      · rw [if_pos eml]
        exact ⟨i, _, _, hb, rfl, hlen, .inl hz, fun e => absurd e e0, fun _ => ⟨by show m - l ≤ m' - l; omega, .inl hz⟩⟩
      · rw [if_neg eml, addr_add]
        exact ⟨i, _, _, hb, rfl, hlen, .inl hz, fun e => absurd e e0, fun _ => ⟨by show m - l ≤ m' - l; omega, .inl hz⟩⟩
    · have eml : m' ≠ l := by omega
      rw [if_neg eml, addr_add]
      have hx' : x = i.o + off := by rcases hx with hx | hx <;> omega
      have hb2 : x + m' * s ≤ i.hi := by rcases j2 with j | j <;> omega
      refine ⟨i, _, _, hb, rfl, hlen, .inr (by omega), fun e => absurd e e0, fun _ => ⟨by show m - l ≤ m' - l; omega, .inr ?_⟩⟩
      have : l * size + (m' - l) * s = m' * s := by
        rw [← hss, ← Nat.add_mul]; congr 1; omega
      omega

theorem aSliceStr_ok {s : ByteArray} {low high max : Option AV} {low' high' : Option Value} {z : AV} {isSlice : Bool} (h : aSliceStr s low high max = some z) (rl : optRel φ low low') (rh : optRel φ high high') :
    max = none ∧ ∃ l hh m, (Instr.sliceBounds isSlice s.size s.size low' high' none).run P w = .ok (l, hh, m) w ∧ z.rel φ (.string (s.extract l hh)) := by
  unfold aSliceStr at h
  split at h
  · cases h
  · refine ⟨rfl, ?_⟩
    obtain ⟨hh, h1, h2⟩ := ob_some h
    obtain ⟨l, h3, h4⟩ := ob_some h2
    simp only [Option.some.injEq] at h4
    subst h4
    obtain ⟨m', hrun, _⟩ := sliceBounds_ok (P := P) (φ := φ) (w := w) (isSlice := isSlice) (max := none) (max' := none) (m := s.size) (cap := s.size) (cap' := s.size) rfl rfl h1 h3 rl rh trivial (Nat.le_refl _) (Nat.le_refl _)
    refine ⟨l, hh, m', hrun, ?_⟩
    show Value.string _ = Value.string _
    congr 1
    have : s.extract l hh = ⟨(s.extract l hh).data⟩ := rfl
    rw [this, ByteArray.data_extract]
    congr 1
    apply Array.ext'
    simp [List.extract_eq_take_drop]

theorem sliceElem_some {t : TypeId} {e : TypeId × Nat} (h : sliceElem P t = some e) : undO P t = some (.slice e.1) ∧ sizeO P e.1 = some e.2 := by
  unfold sliceElem at h
  split at h
  · rename_i el hu
    split at h
    · rename_i n hn
      simp only [Option.some.injEq] at h
      subst h
      exact ⟨hu, hn⟩
    · cases h
  · cases h
theorem arrayElem_some {t : TypeId} {e : Nat × TypeId × Nat} (h : arrayElem P t = some e) : undO P t = some (.array e.1 e.2.1) ∧ sizeO P e.2.1 = some e.2.2 := by
  unfold arrayElem at h
  split at h
  · rename_i len el hu
    split at h
    · rename_i n hn
      simp only [Option.some.injEq] at h
      subst h
      exact ⟨hu, hn⟩
    · cases h
  · cases h

theorem aSlice_ok {t : TypeId} {x z : AV} {v : Value} {low high max : Option AV} {low' high' max' : Option Value} (h : aSlice P t x low high max = some z) (hx : x.rel φ v)
    (rl : optRel φ low low') (rh : optRel φ high high') (rm : optRel φ max max') : ∃ v', (Instr.sliceAt t v low' high' max').run P w = .ok v' w ∧ z.rel φ v' := by
  unfold aSlice at h
  split at h
  · rename_i s hu
    cases lit_rel hx
    obtain ⟨rfl, l, hh, m, hrun, hz⟩ := aSliceStr_ok (P := P) (w := w) (isSlice := false) h rl rh
    cases max' with
    | some a => exact rm.elim
    | none =>
      refine ⟨_, ?_, hz⟩
      simp [Instr.sliceAt, Instr.slice, run_und hu, hrun]
  · rename_i el b off len cap sz hu
    obtain ⟨e, he, h1⟩ := ob_some h
    obtain ⟨hu', hs⟩ := sliceElem_some he
    rw [hu] at hu'
    cases hu'
    obtain ⟨i, x, cap', hb, rfl, g0, g1, g2, g3⟩ := hx
    obtain ⟨l, hh, m', hrun, hz⟩ := aSliceRow_ok (P := P) (w := w) (isSlice := true) h1 rl rh rm hb g0 g1 g2 g3
    refine ⟨_, ?_, hz⟩
    simp only [Instr.sliceAt, Instr.slice, Sem.run_bind, run_und hu, Result.andThen_ok, hrun, run_size hs]
    by_cases hml : m' = l <;> simp [hml]
  · rename_i el hu
    cases lit_rel hx
    obtain ⟨e, he, h0⟩ := ob_some h
    obtain ⟨hu', hs⟩ := sliceElem_some he
    rw [hu] at hu'
    cases hu'
    have hmh : (max.isSome && high.isNone) = false := by
      cases e : an max.isSome high.isNone
      · rw [an_eq] at e; exact e
      · rw [e, sel_true] at h0; cases h0
    have hf : an max.isSome high.isNone = false := by rw [an_eq]; exact hmh
    rw [hf, sel_false] at h0
    obtain ⟨m, hm, h1⟩ := ob_some h0
    obtain ⟨hh, hhh, h2⟩ := ob_some h1
    obtain ⟨l, hl, h3⟩ := ob_some h2
    simp only [Option.some.injEq] at h3
    subst h3
    obtain ⟨m', hrun, g1, g2, hle⟩ := sliceBounds_ok (P := P) (w := w) (isSlice := true) hmh hm hhh hl rl rh rm (Nat.le_refl 0) (Nat.le_refl 0)
    have le0 : ∀ {y : Option AV} {a : Nat}, boundO y 0 0 = some a → a = 0 := by
      intro y a hy
      cases y with
      | none => cases hy; rfl
      | some v =>
        obtain ⟨n, _, k1⟩ := ob_some (show ob v.nat? _ = some a from hy)
        obtain ⟨k2, k3⟩ := sel_some k1 rfl
        cases k3
        have := Nat.le_of_ble_eq_true k2
        omega
    have em : m = 0 := le0 hm
    subst em
    have eh : hh = 0 := le0 hhh
    subst eh
    have el : l = 0 := by omega
    subst el
    have em' : m' = 0 := by
      cases hmx : max with
      | none => exact (g1 hmx).1
      | some a => exact (g2 (by simp [hmx])).1
    subst em'
    refine ⟨.slice none 0 0, ?_, rfl⟩
    simp [Instr.sliceAt, Instr.slice, run_und hu, hrun, run_size hs]
  · rename_i len el b off hu
    obtain ⟨e, he, h1⟩ := ob_some h
    obtain ⟨hu', hs⟩ := arrayElem_some he
    rw [hu] at hu'
    cases hu'
    obtain ⟨i, hb, rfl⟩ := hx
    obtain ⟨l, hh, m', hrun, hz⟩ := aSliceRow_ok (P := P) (w := w) (isSlice := false) h1 rl rh rm hb (Nat.le_refl _) (.inr rfl) (fun _ => rfl) (fun e => absurd rfl e)
    refine ⟨_, ?_, hz⟩
    simp [Instr.sliceAt, Instr.sureAddr, run_und hu, hrun, run_size hs]
  · cases h

/-! ### Addresses, indexes -/
theorem fieldOff_some {s : TypeId} {f o : Nat} (h : fieldOff P s f = some o) : ∃ fields fd n, undO P s = some (.struct fields) ∧ fields[f]? = some fd ∧ sizeO P fd.type = some (n + 1) ∧ fd.offset = o := by
  unfold fieldOff at h
  split at h
  · rename_i fields hu
    split at h
    · rename_i fd hfd
      split at h
      · rename_i n hn
        simp only [Option.some.injEq] at h
        exact ⟨fields, fd, n, hu, by simpa using hfd, hn, h⟩
      · cases h
    · cases h
  · cases h

theorem aFieldAddr_ok {s : TypeId} {x z : AV} {f : Nat} {v : Value} (h : aFieldAddr P s x f = some z) (hx : x.rel φ v) : ∃ v', (Instr.fieldAt s v f).run P w = .ok v' w ∧ z.rel φ v' := by
  obtain ⟨p, hp, h1⟩ := ob_some h
  obtain ⟨o, ho, h2⟩ := ob_some h1
  simp only [Option.some.injEq] at h2
  subst h2
  rw [AV.ptr?_some hp] at hx
  obtain ⟨i, hi, rfl⟩ := hx
  obtain ⟨fields, fd, n, hu, hfd, hs, rfl⟩ := fieldOff_some ho
  refine ⟨_, ?_, ⟨i, hi, rfl⟩⟩
  simp [Instr.fieldAt, Instr.sureAddr, run_und hu, hfd, fieldPlace, run_size hs, addr_add, Nat.add_assoc]

theorem rowKind_some {t : TypeId} {k : Option Nat × Nat} (h : rowKind P t = some k) :
    (∃ len e, undO P t = some (.array len e) ∧ sizeO P e = some k.2 ∧ k.1 = some len) ∨ (∃ e, undO P t = some (.slice e) ∧ sizeO P e = some k.2 ∧ k.1 = none) := by
  unfold rowKind at h
  split at h
  · rename_i len e hu
    obtain ⟨n, hn, h1⟩ := ob_some h
    simp only [Option.some.injEq] at h1
    subst h1
    exact .inl ⟨len, e, hu, hn, rfl⟩
  · rename_i e hu
    obtain ⟨n, hn, h1⟩ := ob_some h
    simp only [Option.some.injEq] at h1
    subst h1
    exact .inr ⟨e, hu, hn, rfl⟩
  · cases h

theorem aIndexAddr_ok {t : TypeId} {x ix z : AV} {v iv : Value} (h : aIndexAddr P t x ix = some z) (hx : x.rel φ v) (hix : ix.rel φ iv) : ∃ v', (Instr.indexAt t v iv).run P w = .ok v' w ∧ z.rel φ v' := by
  obtain ⟨j, hj, h1⟩ := ob_some h
  obtain ⟨k, hk, h2⟩ := ob_some h1
  obtain ⟨ik, rfl⟩ := AV.nat?_some hj
  cases lit_rel hix
  rcases rowKind_some hk with ⟨len, e, hu, hs, hk1⟩ | ⟨e, hu, hs, hk1⟩
  · rw [hk1, orec_some] at h2
    obtain ⟨p, hp, h3⟩ := ob_some h2
    obtain ⟨hlt, h4⟩ := sel_some h3 rfl
    simp only [Option.some.injEq] at h4
    subst h4
    rw [AV.ptr?_some hp] at hx
    obtain ⟨i, hi, rfl⟩ := hx
    have hlt : j < len := Nat.blt_eq ▸ hlt
    refine ⟨_, ?_, ⟨i, hi, rfl⟩⟩
    have hc : (0 : Int) ≤ (j : Int) ∧ (j : Int) < (len : Int) := ⟨Int.natCast_nonneg j, by omega⟩
    simp [Instr.indexAt, Instr.sureAddr, asIntOf, run_und hu, run_size hs, hlt, addr_add, Nat.add_assoc]
  · rw [hk1, orec_none] at h2
    obtain ⟨p, hp, h3⟩ := ob_some h2
    obtain ⟨hlt, h4⟩ := sel_some h3 rfl
    simp only [Option.some.injEq] at h4
    subst h4
    obtain ⟨cap, sz, rfl⟩ := AV.slice?_some hp
    obtain ⟨i, y, cap', hi, rfl, g0, g1, g2, g3⟩ := hx
    have hlt : j < p.2.2 := Nat.blt_eq ▸ hlt
    have hy : y = i.o + p.2.1 := by rcases g1 with g | g <;> omega
    refine ⟨_, ?_, ⟨i, hi, rfl⟩⟩
    simp [Instr.indexAt, asIntOf, run_und hu, run_size hs, hlt, addr_add, hy, Nat.add_assoc]
end
end Go.Ab
