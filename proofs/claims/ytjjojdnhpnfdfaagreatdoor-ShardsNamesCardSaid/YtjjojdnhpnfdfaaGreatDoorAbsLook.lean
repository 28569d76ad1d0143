import Derived.Test.YtjjojdnhpnfdfaaGreatDoorAbsMake
import Derived.Laws.BytesString
import Derived.MapKept
set_option linter.all false
/-
  OPERATIONS THAT ONLY LOOK.
-/
namespace Go.Ab
open Go
section
variable {P : Program} {φ : Phi} {W : AW} {w : World}

/-! ### Loads -/
theorem aLoad_ok (s : Sim φ W w) {t : TypeId} {a z : AV} {v : Value} (h : aLoad P W t a = some z) (ha : a.rel φ v) : ∃ v', (Instr.loadAt t v).run P w = .ok v' w ∧ z.rel φ v' := by
  obtain ⟨p, hp, h1⟩ := ob_some h
  obtain ⟨k, hk, h2⟩ := ob_some h1
  rw [AV.ptr?_some hp] at ha
  obtain ⟨i, hi, rfl⟩ := ha
  rcases loadKind_some hk with ⟨hg, rfl⟩ | ⟨n, hg, hn, rfl⟩
  · rw [orec_none] at h2
    obtain ⟨v, hr, hc⟩ := s.read1 hi h2
    exact ⟨v, by simp [Instr.loadAt, Instr.sureAddr, loadVar, run_isAgg hg, hc], hr⟩
  · rw [orec_some] at h2
    obtain ⟨l, hl, h3⟩ := ob_some h2
    simp only [Option.some.injEq] at h3
    subst h3
    obtain ⟨vs, hlen, hr, hc⟩ := s.read hi hl
    subst hlen
    refine ⟨.agg vs.toArray, ?_, ⟨_, rfl, by simpa using hr⟩⟩
    simp [Instr.loadAt, Instr.sureAddr, loadVar, run_isAgg hg, run_size hn, run_loadCells_list _ _ _ hc]

theorem Sim.shape (s : Sim φ W w) {b : Nat} {i : Img} {c : Cells} (hb : φ b = some i) (hc : W.cells b = some c) : w.shape? i.cb = some (c.el, i.hi) := by
  obtain ⟨arr, lo, hi, a1, a2, _⟩ := s.cells hb hc
  simp [World.shape?, a1, a2]

/-! ### Text off bytes -/
def AV.byte? (v : AV) : Option UInt8 := match v with
  | .lit (.int .u8 n) => some (UInt8.ofNat n.toNat)
  | _ => none
theorem AV.byte?_some {a : AV} {b : UInt8} (h : a.byte? = some b) : ∃ n, a = .lit (.int .u8 n) ∧ b = UInt8.ofNat n.toNat := by
  unfold AV.byte? at h
  split at h
  · rename_i n; simp at h; exact ⟨n, rfl, h.symm⟩
  · cases h
theorem bytes?_cons (a : AV) (l : List AV) : bytes? (a :: l) = a.byte?.bind fun b => (bytes? l).bind fun r => some (b :: r) := by
  unfold bytes?
  rw [List.mapM_cons]
  rfl

theorem bytes?_some : ∀ {l : List AV} {bs : List UInt8}, bytes? l = some bs → ∃ ns : List Int, l = ns.map (fun n => .lit (.int .u8 n)) ∧ bs = ns.map fun n => UInt8.ofNat n.toNat
  | [], bs, h => by
    simp [bytes?] at h
    subst h
    exact ⟨[], rfl, rfl⟩
  | a :: l, bs, h => by
    rw [bytes?_cons] at h
    cases ha : a.byte? with
    | none => rw [ha] at h; simp at h
    | some b =>
      rw [ha] at h
      simp only [Option.bind_some] at h
      cases hr : bytes? l with
      | none => rw [hr] at h; simp at h
      | some r =>
        rw [hr] at h
        simp at h
        obtain ⟨ns, rfl, rfl⟩ := bytes?_some hr
        obtain ⟨n, rfl, rfl⟩ := AV.byte?_some ha
        exact ⟨n :: ns, rfl, h.symm⟩

theorem relL_ints {ns : List Int} {vs : List Value} (h : relL φ (ns.map fun n => .lit (.int .u8 n)) vs) : vs = ns.map (Value.int .u8) := by
  induction ns generalizing vs with
  | nil => exact relL_nil.1 h
  | cons n ns ih =>
    obtain ⟨v, r, rfl, h1, h2⟩ := relL_cons.1 h
    rw [ih h2, lit_rel h1]
    rfl

theorem foldl_push (ns : List Int) : ∀ s : ByteArray, ns.foldl (fun r n => r.push (UInt8.ofNat n.toNat)) s = ⟨s.data ++ (ns.map fun n => UInt8.ofNat n.toNat).toArray⟩ := by
  induction ns with
  | nil => intro s; apply ByteArray.ext; simp
  | cons n ns ih =>
    intro s
    rw [List.foldl_cons, ih]
    apply ByteArray.ext
    simp [ByteArray.push]

theorem aToString_ok (s : Sim φ W w) {src dst e : TypeId} {x z : AV} {v : Value} (h : aToString P e x W = some z) (hx : x.rel φ v) (hs : undO P src = some (.slice e)) (hd : undO P dst = some .string) :
    ∃ v', (convert src dst v).run P w = .ok v' w ∧ z.rel φ v' := by
  unfold aToString at h
  split at h
  · rename_i hu
    split at h
    · rename_i len cap
      cases h
      cases lit_rel hx
      refine ⟨.string .empty, ?_, rfl⟩
      simp [convert, run_und hs, run_und hd, run_und hu, Conv.bytesToString]
    · rename_i b off len cap sz
      obtain ⟨l, hl, h1⟩ := ob_some h
      obtain ⟨bs, hbs, h2⟩ := ob_some h1
      cases h2
      obtain ⟨i, y, cap', hi, rfl, g0, g1, g2, g3⟩ := hx
      obtain ⟨vs, hlen, hr, hc⟩ := s.read hi hl
      obtain ⟨ns, rfl, rfl⟩ := bytes?_some hbs
      have hvs := relL_ints hr
      subst hvs
      have hlen : ns.length = len := by simpa using hlen
      have hld : (loadCells ⟨i.cb, y, none⟩ len).run P w = .ok (ns.map (Value.int .u8)).toArray w := by
        by_cases h0 : len = 0
        · subst h0
          have : ns = [] := List.length_eq_zero_iff.1 hlen
          subst this
          rfl
        · have hy : y = i.o + off := by rcases g1 with g | g <;> omega
          rw [hy]
          have := run_loadCells_list (P := P) w _ _ hc
          simpa [hlen] using this
      refine ⟨.string _, ?_, rfl⟩
      have hb := run_bytesToString (P := P) w ⟨i.cb, y, none⟩ len cap' ns hld
      simp only [convert, Sem.run_bind, run_und hs, run_und hd, run_und hu, Result.andThen_ok]
      rw [hb, foldl_push]
      simp
    · cases h
  · cases h

/-! ### Pointers without a type -/
theorem sizeOf_pos {t : TypeId} {n : Nat} (h : sizeO P t = some (n + 1)) : (sizeOf t).run P w = .ok (n + 1) w := run_size h

theorem run_viewAt_none {r : Nat} {sh : TypeId × Nat} (h : w.shape? r = some sh) : (viewAt r).run P w = .ok none w := by simp [viewAt, h]
theorem run_seenAt_row {a : Addr} {sh : TypeId × Nat} (h : w.shape? a.block = some sh) : (Conv.seenAt a).run P w = .ok a w := by simp [Conv.seenAt, run_viewAt_none h]

theorem convert_unsafe {src dst t : TypeId} {v' : Option Addr} (hs : undO P src = some (.pointer t)) (hd : undO P dst = some .unsafePointer) : (convert src dst (.pointer v')).run P w = (Conv.unsafePointer src dst (.pointer v')).run P w := by
  simp [convert, run_und hs, run_und hd]
theorem convert_safe {src dst t : TypeId} {v' : Option Addr} (hs : undO P src = some .unsafePointer) (hd : undO P dst = some (.pointer t)) : (convert src dst (.pointer v')).run P w = (Conv.unsafePointer src dst (.pointer v')).run P w := by
  simp [convert, run_und hs, run_und hd]

theorem aUnsafe_ok (s : Sim φ W w) {src dst t : TypeId} {x z : AV} {v : Value} (h : aUnsafe P t x W = some z) (hx : x.rel φ v) (hs : undO P src = some (.pointer t)) (hd : undO P dst = some .unsafePointer) :
    ∃ v', (convert src dst v).run P w = .ok v' w ∧ z.rel φ v' := by
  obtain ⟨p, hp, h1⟩ := ob_some h
  obtain ⟨c, hc, h2⟩ := ob_some h1
  split at h2
  · rename_i n hn
    obtain ⟨hlt, h3⟩ := sel_some h2 rfl
    cases h3
    have hlt : p.2 < c.n := Nat.blt_eq ▸ hlt
    have hx' := hx
    rw [AV.ptr?_some hp] at hx
    obtain ⟨i, hi, rfl⟩ := hx
    obtain ⟨arr, lo, hi', a1, a2, a3, _⟩ := s.cells hi hc
    have hsh := s.shape hi hc
    refine ⟨_, ?_, hx'⟩
    rw [convert_unsafe hs hd]
    have hci : (cellsIn i.cb).run P w = .ok (some i.hi) w := by simp [cellsIn, hsh]
    have hno : ¬ (i.o + p.2 ≥ i.hi) := by omega
    simp [Conv.unsafePointer, run_und hs, run_und hd, run_seenAt_row (a := ⟨i.cb, i.o + p.2, none⟩) hsh, hci, run_size hn, hno]
  · cases h2

theorem aSafe_ok (s : Sim φ W w) {src dst u : TypeId} {x z : AV} {v : Value} (h : aSafe P u x W = some z) (hx : x.rel φ v) (hs : undO P src = some .unsafePointer) (hd : undO P dst = some (.pointer u)) :
    ∃ v', (convert src dst v).run P w = .ok v' w ∧ z.rel φ v' := by
  obtain ⟨p, hp, h1⟩ := ob_some h
  obtain ⟨c, hc, h2⟩ := ob_some h1
  split at h2
  · rename_i n m hn hm
    obtain ⟨ht, h3⟩ := sel_some h2 rfl
    cases h3
    simp only [an_eq, Bool.and_eq_true] at ht
    obtain ⟨hex, hlies⟩ := ht
    have hx' := hx
    rw [AV.ptr?_some hp] at hx
    obtain ⟨i, hi, rfl⟩ := hx
    obtain ⟨arr, lo, hi', a1, a2, a3, a4, _⟩ := s.cells hi hc
    have hsh := s.shape hi hc
    obtain ⟨e1, e2⟩ := a4 hex
    refine ⟨_, ?_, hx'⟩
    rw [convert_safe hs hd]
    have hcells : P.cellsOf c.el = m := by
      obtain ⟨inf, hi2, e⟩ := sizeO_some hm
      simp [Program.cellsOf, infoO_eq hi2, e]
    have hd' : c.n.div m = i.hi / m := by rw [e2]; rfl
    rw [hd'] at hlies
    have hv : (variablesAt ⟨i.cb, i.o + p.2, none⟩ u 1).run P w = .ok true w := by
      have : liesAt P P.depth c.el (i.hi / m) (i.o + p.2) u 1 = true := by
        rw [e1, Nat.zero_add]; exact hlies
      simp [variablesAt, hsh, hcells, this]
    simp [Conv.unsafePointer, run_und hs, run_und hd, run_seenAt_row (a := ⟨i.cb, i.o + p.2, none⟩) hsh, hv, run_size hn]
  · cases h2
end
end Go.Ab
