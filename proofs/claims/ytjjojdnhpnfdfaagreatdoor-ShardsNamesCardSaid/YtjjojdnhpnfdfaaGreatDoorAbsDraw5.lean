import Derived.Test.YtjjojdnhpnfdfaaGreatDoorAbsDraw4
set_option linter.all false
/-
  A REGION THAT DRAWS ITS ORDER: WHATEVER IT DRAWS.
-/
namespace Go.Ab
open Go

section
variable {P : Program} {e : Env} {ops : Array Oper} {l : Option Nat}
variable {φ0 : Phi} {s0 : St} {w0 : World} {s s1 s' sfin : St} {done settled done' : Nat} {E : Nat → Prop} {blk : Nat → Option Nat} {tmE : Tm} {φ : Phi} {a : Act} {w : World}

/-! ### What the lists say -/
theorem readies_mem {loud done : Nat} : ∀ (fs : List Fact) (i0 k : Nat) (f : Fact), fs[k]? = some f → Nat.beq (Nat.div f.cls 2) loud = true → ready f done (i0 + k) = true → i0 + k ∈ readies loud done fs i0
  | [], _, _, _, h, _, _ => by simp at h
  | x :: r, i0, k, f, h, h1, h2 => by
    unfold readies
    cases k with
    | zero =>
      simp at h; subst h
      have : an (Nat.beq (Nat.div x.cls 2) loud) (ready x done i0) = true := an_true.2 ⟨h1, h2⟩
      rw [this, sel_true]
      exact List.mem_cons_self
    | succ k =>
      have e : i0 + (k + 1) = i0 + 1 + k := by omega
      have := readies_mem r (i0 + 1) k f (by simpa using h) h1 (by rw [← e]; exact h2)
      rw [e]
      cases an (Nat.beq (Nat.div x.cls 2) loud) (ready x done i0)
      · rw [sel_false]; exact this
      · rw [sel_true]; exact List.mem_cons_of_mem _ this

theorem mem_readies {loud done : Nat} : ∀ (fs : List Fact) (i0 i : Nat), i ∈ readies loud done fs i0 → ∃ k f, i = i0 + k ∧ fs[k]? = some f ∧ Nat.beq (Nat.div f.cls 2) loud = true ∧ ready f done i = true
  | [], _, _, h => by cases h
  | x :: r, i0, i, h => by
    unfold readies at h
    have tail : i ∈ readies loud done r (i0 + 1) → ∃ k f, i = i0 + k ∧ (x :: r)[k]? = some f ∧ Nat.beq (Nat.div f.cls 2) loud = true ∧ ready f done i = true := fun h => by
      obtain ⟨k, f, h1, h2, h3⟩ := mem_readies r (i0 + 1) i h
      exact ⟨k + 1, f, by omega, by simpa using h2, h3⟩
    cases hb : an (Nat.beq (Nat.div x.cls 2) loud) (ready x done i0) with
    | false => rw [hb, sel_false] at h; exact tail h
    | true =>
      rw [hb, sel_true] at h
      rcases List.mem_cons.1 h with rfl | h
      · obtain ⟨h1, h2⟩ := an_true.1 hb
        exact ⟨0, x, rfl, rfl, h1, h2⟩
      · exact tail h

theorem looksOk_get {all : List Fact} {done settled : Nat} {looks : List Nat} : ∀ (fs : List Fact) (i0 : Nat), looksOk all done settled looks fs i0 = true → ∀ (k : Nat) (f : Fact), fs[k]? = some f → f.cls = 1 → tb done (i0 + k) = true → tb settled (i0 + k) = false →
    looks.contains (i0 + k) = true ∧ kept done f all 0 = true
  | [], _, _, _, _, h, _, _, _ => by simp at h
  | x :: r, i0, h, k, f, hk, hc, hd, hs => by
    obtain ⟨h1, h2⟩ := an_true.1 (show an _ _ = true from h)
    cases k with
    | zero =>
      simp at hk; subst hk
      rcases orr_true.1 h1 with h1 | h1
      · rw [nt_true] at h1
        have : an (Nat.beq x.cls 1) (an (tb done i0) (nt (tb settled i0))) = true := an_true.2 ⟨by rw [hc]; rfl, an_true.2 ⟨hd, nt_true.2 hs⟩⟩
        rw [this] at h1; cases h1
      · exact an_true.1 h1
    | succ k =>
      have e : i0 + (k + 1) = i0 + 1 + k := by omega
      rw [e] at hd hs ⊢
      exact looksOk_get r (i0 + 1) h2 k f (by simpa using hk) hc hd hs

theorem kept_get {done : Nat} {f : Fact} : ∀ (all : List Fact) (j0 : Nat), kept done f all j0 = true → ∀ (k : Nat) (g : Fact), all[k]? = some g → ∀ d, g.dst = some d → tb f.looks d = true → tb done (j0 + k) = true → tb f.anc (j0 + k) = true
  | [], _, _, _, _, h, _, _, _, _ => by simp at h
  | x :: r, j0, h, k, g, hk, d, hd, hl, hdn => by
    obtain ⟨h1, h2⟩ := an_true.1 (show an _ _ = true from h)
    cases k with
    | zero =>
      simp at hk; subst hk
      rw [hd, orec_some] at h1
      rcases orr_true.1 h1 with h1 | h1
      · rw [nt_true] at h1
        have : an (tb f.looks d) (tb done j0) = true := an_true.2 ⟨hl, hdn⟩
        rw [this] at h1; cases h1
      · exact h1
    | succ k =>
      have e : j0 + (k + 1) = j0 + 1 + k := by omega
      rw [e] at hdn ⊢
      exact kept_get r (j0 + 1) h2 k g (by simpa using hk) d hd hl hdn

theorem fact_get {i : Nat} {o : Oper} (hi : ops[i]? = some o) : ∃ f, (facts P ops.toList)[i]? = some f ∧ f.cls = opClass P o.op ∧ f.dst = o.dst ∧ f.looks = maskOf (looksAt ops.toList o) ∧ f.anc = ancOf P ops.toList i := by
  have hi' : ops.toList[i]? = some o := by rw [Array.getElem?_toList]; exact hi
  exact ⟨_, facts_get hi', rfl, rfl, rfl, (ancOf_eq hi').symm⟩

theorem fact_op {i : Nat} {f : Fact} (hf : (facts P ops.toList)[i]? = some f) : ∃ o, ops[i]? = some o ∧ f.cls = opClass P o.op ∧ f.anc = ancOf P ops.toList i := by
  have hlt : i < (facts P ops.toList).length := (List.getElem?_eq_some_iff.1 hf).1
  rw [facts_length] at hlt
  have hlt' : i < ops.size := by simpa using hlt
  have ho : ops[i]? = some ops[i] := by simp [hlt']
  obtain ⟨f', h1, h2, _, _, h5⟩ := fact_get (P := P) ho
  rw [hf] at h1; cases h1
  exact ⟨_, ho, h2, h5⟩

theorem ready_spec {f : Fact} {i : Nat} (h : ready f done i = true) : tb done i = false ∧ ∀ j, tb f.anc j = true → tb done j = true := by
  obtain ⟨h1, h2⟩ := an_true.1 (show an _ _ = true from h)
  exact ⟨nt_true.1 h1, fun j hj => tb_sub h2 hj⟩

theorem land_of {a d : Nat} (h : ∀ j, tb a j = true → tb d j = true) : Nat.beq (Nat.land a d) a = true := by
  have : Nat.land a d = a := by
    show a &&& d = a
    apply Nat.eq_of_testBit_eq
    intro j
    rw [Nat.testBit_and]
    cases hj : Nat.testBit a j with
    | false => rfl
    | true =>
      have := h j (by rw [tb_eq]; exact hj)
      rw [tb_eq] at this
      rw [this]; rfl
  rw [this]
  exact Nat.beq_refl a

theorem ready_mk {f : Fact} {i : Nat} (h1 : tb done i = false) (h2 : ∀ j, tb f.anc j = true → tb done j = true) : ready f done i = true :=
  an_true.2 ⟨nt_true.2 h1, land_of h2⟩

/-! ### The abstract run goes ahead -/
theorem aNums_cons {i : Nat} {r : List Nat} {L : List Oper} (h : aNums P e L (i :: r) s = some s') : ∃ o s1, L[i]? = some o ∧ aOper P e L o s = some s1 ∧ aNums P e L r s1 = some s' := by
  obtain ⟨o, ho, h1⟩ := ob_some (show ob (nth L i) _ = some s' from h)
  obtain ⟨s1, h2, h3⟩ := ob_some h1
  rw [nth_eq] at ho
  exact ⟨o, s1, ho, h2, h3⟩

theorem Inv.floats (g : Good P ops) : ∀ (fl : List Nat) (done : Nat) (blk : Nat → Option Nat) (s : St), Inv P e ops φ0 s0 w0 s done settled E blk tmE φ a w → floatsOk (facts P ops.toList) fl done = some done' →
    aNums P e ops.toList fl s = some s' → ∃ blk', Inv P e ops φ0 s0 w0 s' done' settled E blk' tmE φ a w
  | [], done, blk, s, h, hf, ha => by
    have hf : some done = some done' := hf
    have ha : some s = some s' := ha
    cases hf; cases ha
    exact ⟨blk, h⟩
  | i :: r, done, blk, s, h, hf, ha => by
    obtain ⟨f, hfi, h1⟩ := ob_some (show ob (nth (facts P ops.toList) i) _ = some done' from hf)
    obtain ⟨h2, h3⟩ := sel_some h1 rfl
    obtain ⟨h4, h5⟩ := an_true.1 h2
    obtain ⟨o, s1, ho, hx, hr⟩ := aNums_cons ha
    rw [nth_eq] at hfi
    have ho' : ops[i]? = some o := by rw [← Array.getElem?_toList]; exact ho
    obtain ⟨f', g1, g2, _, _, g5⟩ := fact_get (P := P) ho'
    rw [hfi] at g1; cases g1
    obtain ⟨h6, h7⟩ := ready_spec h5
    have hc : opClass P o.op ≠ 2 := fun hc => by
      rw [g2, hc] at h4
      exact absurd h4 (by decide)
    obtain ⟨blk1, hI⟩ := h.float g ho' hc h6 (fun j hj => h7 j (by rw [g5]; exact hj)) hx
    exact Inv.floats g r _ blk1 s1 hI h3 hr

/-! ### Whatever is drawn -/
theorem count_set : ∀ (l : List Bool) (i : Nat), l[i]? = some false → (l.set i true).count false + 1 = l.count false
  | [], i, h => by simp at h
  | x :: l, 0, h => by simp at h; subst h; simp
  | x :: l, i + 1, h => by
    have := count_set l i (by simpa using h)
    simp only [List.set_cons_succ, List.count_cons]
    omega

theorem topo_ready {md : Region.Mode} {listed : Array Bool} (hsz : listed.size = ops.size) : ∀ (L : List Nat) (done full : Nat), topo md ops.toList L done = some full → (∀ j, tb done j = true → listed.getD j false = true) →
    (∀ j, tb full j = true → listed.getD j false = true) ∨ ∃ i, i ∈ Region.ready md ops listed
  | [], done, full, h, hd => by
    have h : some done = some full := h
    cases h; exact .inl hd
  | i :: r, done, full, h, hd => by
    obtain ⟨o, ho, h1⟩ := ob_some (show ob (nth ops.toList i) _ = some full from h)
    obtain ⟨h2, h3⟩ := sel_some h1 rfl
    obtain ⟨h4, h5⟩ := an_true.1 h2
    rw [nth_eq, Array.getElem?_toList] at ho
    have hlt : i < listed.size := by rw [hsz]; exact (Array.getElem?_eq_some_iff.1 ho).1
    cases hl : listed.getD i false with
    | true =>
      refine topo_ready hsz r _ full h3 (fun j hj => ?_)
      rw [tb_or, tb_bit, Bool.or_eq_true, decide_eq_true_eq] at hj
      rcases hj with hj | rfl
      · exact hd j hj
      · exact hl
    | false =>
      refine .inr ⟨i, mem_ready.2 ⟨?_, o, ho, fun ed hed hb => ?_⟩⟩
      · simpa [hlt] using hl
      · have := (List.all_eq_true.1 h5) ed (by simpa using hed)
        rcases orr_true.1 this with h | h
        · rw [nt_true, hb] at h; cases h
        · exact hd _ h

/-- Where nothing can be carried out any more, all was. -/
theorem all_listed (g : Good P ops) {md : Region.Mode} {listed : Array Bool} (hsz : listed.size = ops.size) (hr : Region.ready md ops listed = []) : ∀ i, i < ops.size → listed.getD i false = true := by
  have low : (∀ e : Edge, Region.binds md e = true → Region.binds .text e = true) → ∀ i, i < ops.size → listed.getD i false = true := by
    intro hb i
    induction i using Nat.strongRecOn with
    | _ i ih =>
      intro hi
      cases hl : listed.getD i false with
      | true => rfl
      | false =>
        exfalso
        have ho : ops[i]? = some ops[i] := by simp [hi]
        have : i ∈ Region.ready md ops listed := mem_ready.2 ⟨by simpa [hsz, hi] using hl, _, ho, fun ed hed hbe => by
          have hlt := g.text i _ ed ho hed (hb ed hbe)
          exact ih ed.on hlt (by omega)⟩
        rw [hr] at this
        cases this
  cases md with
  | text => exact low (fun _ h => h)
  | any =>
    refine low (fun e h => ?_)
    unfold Region.binds at *
    cases hg : e.ground <;> simp_all
  | gc =>
    rcases topo_ready hsz _ 0 _ g.gc (fun j hj => by rw [tb_zero] at hj; cases hj) with h | ⟨i, hi⟩
    · intro i hi
      exact h i (by rw [tb_full]; simpa using hi)
    · rw [hr] at hi; cases hi

theorem any_binds {md : Region.Mode} {e : Edge} (h : Region.binds .any e = true) : Region.binds md e = true := by
  unfold Region.binds at *
  cases hg : e.ground <;> simp_all

theorem Inv.congrE {E' : Nat → Prop} (h : Inv P e ops φ0 s0 w0 s done settled E blk tmE φ a w) (he : ∀ j, E j ↔ E' j) : Inv P e ops φ0 s0 w0 s done settled E' blk tmE φ a w := by
  have : E = E' := funext fun j => propext (he j)
  rw [← this]; exact h

theorem getD_set_iff {listed : Array Bool} {i : Nat} (hi : i < listed.size) (j : Nat) : (listed.getD j false = true ∨ j = i) ↔ (listed.setIfInBounds i true).getD j false = true := by
  by_cases hj : j = i
  · subst hj
    simp [hi]
  · have : (listed.setIfInBounds i true).getD j false = listed.getD j false := by
      simp only [Array.getD_eq_getD_getElem?]
      rw [Array.getElem?_setIfInBounds_ne (Ne.symm hj)]
    rw [this]
    simp [hj]

theorem Inv.whole (h : Inv P e ops φ0 s0 w0 s done settled E blk tmE φ a w) (hall : ∀ i, i < ops.size → E i) : StRel φ s a w := by
  have hv : ∀ t, tmE.val t = s.tm.val t := by
    intro t
    rw [h.val t]
    by_cases hw : Wr ops E t
    · exact mix_wr hw
    · rw [mix_not hw]
      refine (h.old t (fun hw' => hw ?_)).symm
      obtain ⟨j, o, _, hj, hd⟩ := hw'
      exact ⟨j, o, hall j (Array.getElem?_eq_some_iff.1 hj).1, hj, hd⟩
  exact ⟨⟨h.st.tm.1.trans h.size, fun t => by rw [← hv t]; exact h.st.tm.2 t⟩, h.st.ds, h.st.sim⟩

theorem segs_end {last : List Nat} {segs : List (List Nat × Nat × List Nat)} (h : Inv P e ops φ0 s0 w0 s done settled E blk tmE φ a w) (hall : ∀ i, i < ops.size → E i)
    (hsg : segsOk (facts P ops.toList) (Nat.sub (bit ops.toList.length) 1) last segs done settled = true) (hsa : aSegs P e ops.toList last segs s = some sfin) : s = sfin := by
  cases segs with
  | nil =>
    obtain ⟨_, h1⟩ := sel_some (show sel _ (some s) (no _) = some sfin from hsa) rfl
    cases h1; rfl
  | cons gg r =>
    exfalso
    obtain ⟨looks, c, fl⟩ := gg
    obtain ⟨_, h2⟩ := an_true.1 (show an _ _ = true from hsg)
    obtain ⟨_, h2⟩ := an_true.1 h2
    obtain ⟨h3, _⟩ := an_true.1 h2
    have h3 := eq_of_beq h3
    have hc : c ∈ readies 1 done (facts P ops.toList) 0 := by rw [h3]; exact List.mem_cons_self
    obtain ⟨k, f, hk, hf, _, hr⟩ := mem_readies _ _ _ hc
    rw [Nat.zero_add] at hk; subst hk
    obtain ⟨o, ho, _, _⟩ := fact_op hf
    have := h.sub c (hall c (Array.getElem?_eq_some_iff.1 ho).1)
    rw [(ready_spec hr).1] at this; cases this

theorem draw_main {md : Region.Mode} {Q : Exit → Act → World → Prop} {last : List Nat} (he : EnvOk P l e) (g : Good P ops)
    (hn : ∀ φ' a' w', StRel φ' sfin a' w' → Step φ0 s0.W w0 φ' sfin.W w' → Q .normal a' w') :
    ∀ (fuel : Nat) (listed : Array Bool) (segs : List (List Nat × Nat × List Nat)) (s : St) (done settled : Nat) (blk : Nat → Option Nat) (tmE : Tm) (φ : Phi) (a : Act) (w : World),
      listed.size = ops.size → listed.toList.count false = fuel →
      Inv P e ops φ0 s0 w0 s done settled (fun j => listed.getD j false = true) blk tmE φ a w →
      segsOk (facts P ops.toList) (Nat.sub (bit ops.toList.length) 1) last segs done settled = true → aSegs P e ops.toList last segs s = some sfin →
      wpAnyIn (Fc l) 0 P md ops Q fuel listed a w := by
  intro fuel
  induction fuel with
  | zero =>
    intro listed segs s done settled blk tmE φ a w hsz hcnt hI hsg hsa
    have hall : ∀ i, i < ops.size → listed.getD i false = true := by
      intro i hi
      have hi' : i < listed.size := by omega
      have h0 := List.count_eq_zero.1 hcnt
      cases hb : listed[i] with
      | true => simp [hi', hb]
      | false => exact absurd (by rw [← hb]; simp) h0
    have hnil : Region.ready md ops listed = [] := by
      rw [List.eq_nil_iff_forall_not_mem]
      intro i hi
      obtain ⟨h1, o, ho, _⟩ := mem_ready.1 hi
      have hlt := (Array.getElem?_eq_some_iff.1 ho).1
      have := hall i hlt
      have hi' : i < listed.size := by omega
      simp [hi'] at this h1
      rw [this] at h1; cases h1
    refine ⟨hnil, ?_⟩
    have hs := segs_end hI hall hsg hsa
    subst hs
    exact hn φ a w (hI.whole hall) hI.step
  | succ fuel ih =>
    intro listed segs s done settled blk tmE φ a w hsz hcnt hI hsg hsa
    refine ⟨fun hnil => ?_, fun i hi => ?_⟩
    · have hall := all_listed g hsz hnil
      have hs := segs_end hI hall hsg hsa
      subst hs
      exact hn φ a w (hI.whole hall) hI.step
    · obtain ⟨hun, o, ho, hedge⟩ := mem_ready.1 hi
      have hlt : i < ops.size := (Array.getElem?_eq_some_iff.1 ho).1
      have hlt' : i < listed.size := by omega
      have hfalse : listed[i] = false := by simpa [hlt'] using hun
      have hE : ¬ (listed.getD i false = true) := by simp [hlt', hfalse]
      have ho' : ops.toList[i]? = some o := by rw [Array.getElem?_toList]; exact ho
      have hanc : ∀ j, tb (ancOf P ops.toList i) j = true → listed.getD j false = true := by
        refine anc_sub (D := fun j => listed.getD j false = true) (fun j o e hj ho => ?_) i o ho' (fun ed hed hb => hedge ed (by simpa using hed) (any_binds hb))
        rw [Array.getElem?_toList] at ho
        exact hI.closed j o e hj ho
      have hancD : ∀ j, tb (ancOf P ops.toList i) j = true → tb done j = true := fun j hj => hI.sub j (hanc j hj)
      have hsz' : (listed.setIfInBounds i true).size = ops.size := by simp [hsz]
      have hcnt' : (listed.setIfInBounds i true).toList.count false = fuel := by
        have := count_set listed.toList i (by rw [Array.getElem?_toList]; simp [hlt', hfalse])
        rw [Array.toList_setIfInBounds]
        omega
      obtain ⟨f, hf, hfc, hfd, hfl, hfa⟩ := fact_get (P := P) ho
      have hset := fun j => getD_set_iff (i := i) hlt' j
      have hr0 : (readies 0 done (facts P ops.toList) 0).isEmpty = true := by
        cases segs with
        | nil => exact (an_true.1 (show an _ _ = true from hsg)).1
        | cons gg r => exact (an_true.1 (show an _ _ = true from hsg)).1
      have hlooks : ∃ looks, looks.all (looksSame P ops.toList s) = true ∧ looksOk (facts P ops.toList) done settled looks (facts P ops.toList) 0 = true := by
        cases segs with
        | nil =>
          obtain ⟨_, h2⟩ := an_true.1 (show an _ _ = true from hsg)
          obtain ⟨_, h2⟩ := an_true.1 h2
          exact ⟨last, (sel_some (show sel _ (some s) (no _) = some sfin from hsa) rfl).1, h2⟩
        | cons gg r =>
          obtain ⟨looks, c, fl⟩ := gg
          obtain ⟨_, h2⟩ := an_true.1 (show an _ _ = true from hsg)
          exact ⟨looks, (sel_some (show sel (looks.all (looksSame P ops.toList s)) (ob (aNums P e ops.toList (c :: fl) s) fun s => aSegs P e ops.toList last r s) (no _) = some sfin from hsa) rfl).1, (an_true.1 h2).1⟩
      by_cases hc : opClass P o.op = 2
      · have hnd : tb done i = false := by
          cases hd : tb done i with
          | false => rfl
          | true => exact absurd (hI.loud i o hd ho hc) hE
        cases segs with
        | nil =>
          exfalso
          obtain ⟨_, h2⟩ := an_true.1 (show an _ _ = true from hsg)
          obtain ⟨h3, _⟩ := an_true.1 h2
          have h3 := Nat.eq_of_beq_eq_true h3
          rw [h3, tb_full] at hnd
          simp at hnd
          omega
        | cons gg r =>
          obtain ⟨looks, c, fl⟩ := gg
          obtain ⟨_, h2⟩ := an_true.1 (show an _ _ = true from hsg)
          obtain ⟨_, h2⟩ := an_true.1 h2
          obtain ⟨h3, h4⟩ := an_true.1 h2
          have h3 := eq_of_beq h3
          have hic : i = c := by
            have := readies_mem (loud := 1) (done := done) (facts P ops.toList) 0 i f hf (by rw [hfc, hc]; rfl) (by rw [Nat.zero_add]; exact ready_mk hnd (fun j hj => hancD j (by rw [← hfa]; exact hj)))
            rw [h3, Nat.zero_add] at this
            simpa using this
          subst hic
          split at h4
          · rename_i done2 hfloat
            obtain ⟨_, h5⟩ := sel_some (show sel (looks.all (looksSame P ops.toList s)) (ob (aNums P e ops.toList (i :: fl) s) fun s => aSegs P e ops.toList last r s) (no _) = some sfin from hsa) rfl
            obtain ⟨s2, h6, h7⟩ := ob_some h5
            obtain ⟨o2, s1, ho2, hx, hrest⟩ := aNums_cons h6
            rw [ho'] at ho2; cases ho2
            obtain ⟨tmE1, hxE, hcont⟩ := hI.loudStep g ho hc hnd hanc hx
            unfold wpOpIn
            simp only [ho]
            refine aOper_wp he hI.st hxE (fun φ' a' w' hst hstep => ?_)
            have hI1 := hcont φ' a' w' hst hstep
            obtain ⟨blk2, hI2⟩ := hI1.floats g fl _ blk s1 hfloat hrest
            exact ih (listed.setIfInBounds i true) r s2 done2 _ blk2 tmE1 φ' a' w' hsz' hcnt' (hI2.congrE hset) h4 h7
          · cases h4
      · have hd : tb done i = true := by
          cases hd : tb done i with
          | true => rfl
          | false =>
            exfalso
            have hcl : Nat.beq (Nat.div f.cls 2) 0 = true := by
              rcases opClass_le (P := P) (op := o.op) with h | h | h
              · rw [hfc, h]; rfl
              · rw [hfc, h]; rfl
              · exact absurd h hc
            have := readies_mem (loud := 0) (done := done) (facts P ops.toList) 0 i f hf hcl (by rw [Nat.zero_add]; exact ready_mk hd (fun j hj => hancD j (by rw [← hfa]; exact hj)))
            rw [List.isEmpty_iff.1 hr0] at this
            cases this
        refine hI.take g ho hd hE hc hanc (fun hc1 => ?_) (fun tmE' φ' a' w' hI' => ?_)
        · obtain ⟨looks, hl1, hl2⟩ := hlooks
          have hns : tb settled i = false := by
            cases hs : tb settled i with
            | false => rfl
            | true => exact absurd (hI.sett i hs) hE
          have := looksOk_get _ 0 hl2 i f hf (hfc.trans hc1) (by rw [Nat.zero_add]; exact hd) (by rw [Nat.zero_add]; exact hns)
          rw [Nat.zero_add] at this
          obtain ⟨hin, hkept⟩ := this
          refine ⟨(List.all_eq_true.1 hl1) i (by simpa using hin), fun t ht => ?_⟩
          by_cases hw : Wr ops (An P ops i) t
          · rw [mix_wr hw]
          · rw [mix_not hw]
            refine hI.old t ?_
            rintro ⟨k, ok, hk, hok, hdk⟩
            obtain ⟨fk, hfk, _, hfkd, _, _⟩ := fact_get (P := P) hok
            have := kept_get _ 0 hkept k fk hfk t (hfkd.trans hdk) (by rw [hfl]; exact tb_maskOf.2 ht) (by rw [Nat.zero_add]; exact hk)
            rw [Nat.zero_add, hfa] at this
            exact hw ⟨k, ok, this, hok, hdk⟩
        · exact ih (listed.setIfInBounds i true) segs s done settled blk tmE' φ' a' w' hsz' hcnt' (hI'.congrE hset) hsg hsa

theorem goodPlan_some {p : Plan} {L : List Oper} (h : goodPlan P L = some p) : regOk L (facts P L) p = true := by
  unfold goodPlan at h
  obtain ⟨h1, h2⟩ := sel_some h rfl
  cases h2; exact h1

/-- **A REGION THAT DRAWS ITS ORDER.** -/
theorem draw_wp {id : Nat} {Q : Exit → Act → World → Prop} (he : EnvOk P l e) (h : StRel φ s a w) (ha : aDraw P e ops.toList s = some s')
    (hn : ∀ φ' a' w', StRel φ' s' a' w' → Step φ s.W w φ' s'.W w' → Q .normal a' w') : (Code.region id ops true).wpIn (Fc l) 0 P Q a w := by
  obtain ⟨p, hp, h1⟩ := ob_some ha
  obtain ⟨s1, h2, h3⟩ := ob_some h1
  obtain ⟨g, done, hfl, hsg⟩ := good_of (goodPlan_some hp)
  have hst : StRel φ s a { w with drawn := w.drawn + 1 } := ⟨h.tm, h.ds, h.sim.drew rfl⟩
  have hstep : Step φ s.W w φ s.W { w with drawn := w.drawn + 1 } := .drew rfl rfl rfl rfl
  have hI0 : Inv P e ops φ s w s 0 0 (fun j => (Array.replicate ops.size false).getD j false = true) (fun _ => none) s.tm φ a { w with drawn := w.drawn + 1 } := by
    have hno : ∀ j, ¬ ((Array.replicate ops.size false).getD j false = true) := fun j => by
      rw [Array.getD_eq_getD_getElem?, Array.getElem?_replicate]
      split <;> simp
    have hnw : ∀ t, ¬ Wr ops (fun j => (Array.replicate ops.size false).getD j false = true) t := fun t ⟨j, _, hj, _⟩ => hno j hj
    have hz : ∀ j, ¬ (tb 0 j = true) := fun j hj => by rw [tb_zero] at hj; cases hj
    exact ⟨hst, hstep, fun t => (mix_not (hnw t)).symm, rfl, fun _ _ => rfl, fun j hj => absurd hj (hno j), fun j _ _ hj => absurd hj (hno j), fun j hj => absurd hj (hz j), fun j _ hj => absurd hj (hz j),
      fun j hj => absurd hj (hz j), fun _ _ _ h => (by cases h), fun _ _ h => (by cases h), fun j _ hj => absurd hj (hz j), fun j _ _ hj => absurd hj (hz j)⟩
  obtain ⟨blk, hI⟩ := hI0.floats g p.head 0 _ s hfl h2
  refine wpIn_region_draw fun t => ?_
  have main : ∀ (md : Region.Mode) (t : Nat), wpOpsIn (Fc l) 0 P ops Q (Region.linearise md ops t) a { w with drawn := w.drawn + 1 } := fun md t =>
    wpAnyIn_sound ops.size t _ a _ (draw_main he g hn ops.size (Array.replicate ops.size false) p.segs s1 done 0 blk s.tm φ a _ (by simp) (by simp) hI hsg h3)
  unfold Region.schedule
  split
  · exact main _ _
  · exact main _ _
end
end Go.Ab
