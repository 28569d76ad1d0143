/-
  Tries over the naturals, and two small words by which the abstract run (AbsCore.lean) is written so that the kernel has little to do.
-/
set_option linter.all false
namespace Go.Ab
noncomputable section

/-- A refusal, with a word for whoever debugs. -/
def no {α : Type} (_why : String) : Option α := none

def sel {α : Type} (b : Bool) (t e : α) : α := @Bool.rec (fun _ => α) e t b
def an (a b : Bool) : Bool := @Bool.rec (fun _ => Bool) false b a
def nt (a : Bool) : Bool := @Bool.rec (fun _ => Bool) true false a
def orr (a b : Bool) : Bool := @Bool.rec (fun _ => Bool) b true a
def tb (m i : Nat) : Bool := Nat.beq (Nat.land (Nat.shiftRight m i) 1) 1
def ob {α β : Type} (o : Option α) (f : α → Option β) : Option β := @Option.rec α (fun _ => Option β) none f o
def orec {α β : Type} (n : β) (f : α → β) (o : Option α) : β := @Option.rec α (fun _ => β) n f o
def ob2 {α β γ : Type} (o : Option (α × β)) (f : α → β → Option γ) : Option γ := @Option.rec (α × β) (fun _ => Option γ) none (fun p => @Prod.rec α β (fun _ => Option γ) f p) o
def nth {α : Type} (l : List α) : Nat → Option α := @List.rec α (fun _ => Nat → Option α) (fun _ => none) (fun a _ ih n => @Nat.rec (fun _ => Option α) (some a) (fun n _ => ih n) n) l

inductive Tr (α : Type) where
  | leaf
  | node (l : Tr α) (v : Option α) (r : Tr α)

/-- The way to a number: 0 is here; odd ones lie to the left. -/
def wayF (f : Nat) : Nat → List Bool :=
  @Nat.rec (fun _ => Nat → List Bool) (fun _ => []) (fun _ p n => @Bool.rec (fun _ => List Bool) (Nat.beq (Nat.mod n 2) 1 :: p (Nat.div (Nat.sub n 1) 2)) [] (Nat.beq n 0)) f
def Tr.getP {α : Type} (p : List Bool) : Tr α → Option α :=
  @List.rec Bool (fun _ => Tr α → Option α) (fun t => @Tr.rec α (fun _ => Option α) none (fun _ v _ _ _ => v) t)
    (fun b _ ih t => @Tr.rec α (fun _ => Option α) none (fun l _ r _ _ => @Bool.rec (fun _ => Option α) (ih r) (ih l) b) t) p
def Tr.putP {α : Type} (a : α) (p : List Bool) : Tr α → Tr α :=
  @List.rec Bool (fun _ => Tr α → Tr α) (fun t => @Tr.rec α (fun _ => Tr α) (.node .leaf (some a) .leaf) (fun l _ r _ _ => .node l (some a) r) t)
    (fun b _ ih t => @Tr.rec α (fun _ => Tr α) (@Bool.rec (fun _ => Tr α) (.node .leaf none (ih .leaf)) (.node (ih .leaf) none .leaf) b) (fun l v r _ _ => @Bool.rec (fun _ => Tr α) (.node l v (ih r)) (.node (ih l) v r) b) t) p

def way (n : Nat) : List Bool := wayF (Nat.log2 (Nat.add n 1)) n
def Tr.get {α : Type} (t : Tr α) (n : Nat) : Option α := Tr.getP (way n) t
def Tr.set {α : Type} (t : Tr α) (n : Nat) (a : α) : Tr α := Tr.putP a (way n) t

def ofListF {α : Type} (l : List α) : Nat → Tr α → Tr α := @List.rec α (fun _ => Nat → Tr α → Tr α) (fun _ t => t) (fun a _ p i t => p (Nat.add i 1) (t.set i a)) l
def Tr.ofList {α : Type} (l : List α) : Tr α := ofListF l 0 .leaf

/-! ### What they are -/
theorem ob_eq {α β : Type} (o : Option α) (f : α → Option β) : ob o f = o.bind f := by cases o <;> rfl
theorem ob_some {α β : Type} {o : Option α} {f : α → Option β} {b : β} (h : ob o f = some b) : ∃ a, o = some a ∧ f a = some b := by
  cases o with
  | none => cases h
  | some a => exact ⟨a, rfl, h⟩
theorem nth_eq {α : Type} : ∀ (l : List α) (n : Nat), nth l n = l[n]?
  | [], _ => rfl
  | _ :: _, 0 => rfl
  | _ :: l, n + 1 => nth_eq l n
theorem orec_none {α β : Type} (n : β) (f : α → β) : orec n f none = n := rfl
theorem orec_some {α β : Type} (n : β) (f : α → β) (a : α) : orec n f (some a) = f a := rfl
theorem ob2_some {α β γ : Type} {o : Option (α × β)} {f : α → β → Option γ} {c : γ} (h : ob2 o f = some c) : ∃ a b, o = some (a, b) ∧ f a b = some c := by
  cases o with
  | none => cases h
  | some p => exact ⟨p.1, p.2, rfl, h⟩
theorem an_eq (a b : Bool) : an a b = (a && b) := by cases a <;> rfl
theorem nt_eq (a : Bool) : nt a = !a := by cases a <;> rfl
theorem orr_eq (a b : Bool) : orr a b = (a || b) := by cases a <;> rfl
theorem tb_eq (m i : Nat) : tb m i = Nat.testBit m i := by
  unfold tb Nat.testBit
  have e : Nat.land (Nat.shiftRight m i) 1 = 1 &&& (m >>> i) := by rw [Nat.and_comm]; rfl
  rw [e]
  have h : 1 &&& (m >>> i) = 0 ∨ 1 &&& (m >>> i) = 1 := by
    have : 1 &&& (m >>> i) ≤ 1 := Nat.and_le_left
    omega
  rcases h with h | h <;> rw [h] <;> rfl
theorem sel_true {α : Type} {t e : α} : sel true t e = t := rfl
theorem sel_false {α : Type} {t e : α} : sel false t e = e := rfl
theorem sel_eq {α : Type} (b : Bool) (t e : α) : sel b t e = if b then t else e := by cases b <;> rfl
/-- A test whose 'no' is a refusal. -/
theorem sel_some {α : Type} {b : Bool} {t : Option α} {e : Option α} {x : α} (h : sel b t e = some x) (he : e = none) : b = true ∧ t = some x := by
  cases b
  · rw [sel_false, he] at h; cases h
  · exact ⟨rfl, h⟩

def unway : List Bool → Nat
  | [] => 0
  | true :: r => 2 * unway r + 1
  | false :: r => 2 * unway r + 2

theorem wayF_succ (f n : Nat) : wayF (f + 1) n = if n = 0 then [] else Nat.beq (n % 2) 1 :: wayF f ((n - 1) / 2) := by
  show @Bool.rec (fun _ => List Bool) (Nat.beq (Nat.mod n 2) 1 :: wayF f (Nat.div (Nat.sub n 1) 2)) [] (Nat.beq n 0) = _
  cases h : Nat.beq n 0
  · have : n ≠ 0 := Nat.ne_of_beq_eq_false h
    rw [if_neg this]; rfl
  · have : n = 0 := Nat.eq_of_beq_eq_true h
    rw [if_pos this]

theorem unway_wayF : ∀ (f n : Nat), n + 1 < 2 ^ (f + 1) → unway (wayF f n) = n
  | 0, n, h => by have : n = 0 := by omega
                  subst this; rfl
  | f + 1, n, h => by
    rw [wayF_succ]
    by_cases hn : n = 0
    · rw [if_pos hn, hn]; rfl
    · rw [if_neg hn]
      have h2 : 2 ^ (f + 1 + 1) = 2 * 2 ^ (f + 1) := by rw [Nat.pow_succ]; omega
      have ih := unway_wayF f ((n - 1) / 2) (by omega)
      by_cases ho : n % 2 = 1
      · have : Nat.beq (n % 2) 1 = true := by rw [ho]; rfl
        rw [this]; simp only [unway]; rw [ih]; omega
      · have : Nat.beq (n % 2) 1 = false := by
          have h0 : n % 2 = 0 := by omega
          rw [h0]; rfl
        rw [this]; simp only [unway]; rw [ih]; omega

theorem unway_way (n : Nat) : unway (way n) = n := unway_wayF _ _ (by
  show n + 1 < 2 ^ (Nat.log2 (n + 1) + 1)
  exact Nat.lt_log2_self)

theorem way_inj {n m : Nat} (h : way n = way m) : n = m := by
  have := congrArg unway h; rwa [unway_way, unway_way] at this

theorem getP_leaf {α : Type} (p : List Bool) : Tr.getP p (.leaf : Tr α) = none := by cases p <;> rfl

theorem getP_putP_same {α : Type} (a : α) : ∀ (p : List Bool) (t : Tr α), Tr.getP p (Tr.putP a p t) = some a
  | [], .leaf => rfl
  | [], .node .. => rfl
  | b :: p, .leaf => by cases b <;> exact getP_putP_same a p .leaf
  | true :: p, .node l _ _ => getP_putP_same a p l
  | false :: p, .node _ _ r => getP_putP_same a p r

theorem getP_putP_other {α : Type} (a : α) : ∀ (p q : List Bool) (t : Tr α), p ≠ q → Tr.getP q (Tr.putP a p t) = Tr.getP q t
  | [], [], _, h => absurd rfl h
  | [], true :: q, .leaf, _ => getP_leaf q
  | [], false :: q, .leaf, _ => getP_leaf q
  | [], b :: q, .node .., _ => rfl
  | b :: p, [], .leaf, _ => by cases b <;> rfl
  | b :: p, [], .node .., _ => by cases b <;> rfl
  | b :: p, c :: q, .leaf, h => by
    have hr : Tr.getP (c :: q) (.leaf : Tr α) = none := rfl
    rw [hr]
    cases b <;> cases c
    · exact (getP_putP_other a p q .leaf (fun e => h (by rw [e]))).trans (getP_leaf q)
    · exact getP_leaf q
    · exact getP_leaf q
    · exact (getP_putP_other a p q .leaf (fun e => h (by rw [e]))).trans (getP_leaf q)
  | b :: p, c :: q, .node l v r, h => by
    cases b <;> cases c
    · exact getP_putP_other a p q r (fun e => h (by rw [e]))
    · rfl
    · rfl
    · exact getP_putP_other a p q l (fun e => h (by rw [e]))

theorem Tr.get_set_same {α : Type} (t : Tr α) (n : Nat) (a : α) : (t.set n a).get n = some a := getP_putP_same a _ _
theorem Tr.get_set_other {α : Type} (t : Tr α) {n m : Nat} (a : α) (h : n ≠ m) : (t.set n a).get m = t.get m :=
  getP_putP_other a _ _ _ (fun e => h (way_inj e))
theorem Tr.get_leaf {α : Type} (n : Nat) : (.leaf : Tr α).get n = none := getP_leaf _
theorem ofListF_get {α : Type} : ∀ (l : List α) (i : Nat) (t : Tr α) (n : Nat), (ofListF l i t).get n = if i ≤ n ∧ n < i + l.length then l[n - i]? else t.get n
  | [], i, t, n => by
    rw [if_neg (fun h => by have := h.2; simp at this; omega)]; rfl
  | a :: l, i, t, n => by
    have ih := ofListF_get l (i + 1) (t.set i a) n
    have e : ofListF (a :: l) i t = ofListF l (i + 1) (t.set i a) := rfl
    rw [e, ih]
    by_cases h : i + 1 ≤ n ∧ n < i + 1 + l.length
    · rw [if_pos h, if_pos ⟨by omega, by simp only [List.length_cons]; omega⟩]
      have : n - i = (n - (i + 1)) + 1 := by omega
      rw [this, List.getElem?_cons_succ]
    · rw [if_neg h]
      by_cases hn : i = n
      · subst hn; rw [Tr.get_set_same, if_pos (by simp)]; simp
      · rw [Tr.get_set_other _ _ hn, if_neg (fun h' => by have := h'.2; simp at this; omega)]
theorem Tr.get_ofList {α : Type} (l : List α) (n : Nat) : (Tr.ofList l).get n = l[n]? := by
  unfold Tr.ofList
  rw [ofListF_get]
  by_cases h : n < l.length
  · rw [if_pos (by omega)]; rfl
  · rw [if_neg (by omega), Tr.get_leaf, List.getElem?_eq_none (by omega)]
end
end Go.Ab
