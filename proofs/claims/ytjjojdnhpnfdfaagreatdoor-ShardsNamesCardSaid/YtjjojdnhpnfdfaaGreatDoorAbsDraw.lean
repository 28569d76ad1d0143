import Derived.Test.YtjjojdnhpnfdfaaGreatDoorAbsOper
set_option linter.all false
/-
  A REGION THAT DRAWS ITS ORDER: WHAT AN OPERATION's ABSTRACT DEED HANGS ON.
-/
namespace Go.Ab
open Go

section
variable {P : Program} {e e' : Env} {tm tm' : Tm}

theorem evL_congr {l : Array Operand} (h : ∀ x ∈ l, aEval tm x = aEval tm' x) : evL tm l = evL tm' l := by
  unfold evL
  exact List.map_congr_left (fun x hx => h x (by simpa using hx))

theorem evO_congr {x : Option Operand} (h : ∀ y, x = some y → aEval tm y = aEval tm' y) : evO (aEval tm) x = evO (aEval tm') x := by
  cases x with
  | none => rfl
  | some y => exact congrArg some (h y rfl)

theorem partsOf_congr {l : Array (Nat × Operand)} (h : ∀ x ∈ (l.toList.map (·.2)).toArray, aEval tm x = aEval tm' x) : partsOf (aEval tm) l.toList = partsOf (aEval tm') l.toList := by
  unfold partsOf
  refine List.map_congr_left (fun p hp => ?_)
  rw [h p.2 (by simp only [List.mem_toArray, List.mem_map]; exact ⟨p, hp, rfl⟩)]

theorem Call.mem_args {c : Call} {x : Operand} (h : x ∈ c.args) : x ∈ c.operands := by
  unfold Call.operands; exact Array.mem_append.2 (.inr h)

/-- An operation looks at its operands alone. -/
theorem aDo_congr {op : Op} (h : ∀ x ∈ op.operands, aEval tm x = aEval tm' x) : aDo op P e tm = aDo op P e tm' := by
  cases op with
  | move x => have := h x (by simp [Op.operands]); show Do.give (some _) = Do.give (some _); rw [this]
  | assign x => have := h x (by simp [Op.operands]); show Do.give (some _) = Do.give (some _); rw [this]
  | pick c a b => show Do.give (aPick _ _ _) = Do.give (aPick _ _ _); rw [h c (by simp [Op.operands]), h a (by simp [Op.operands]), h b (by simp [Op.operands])]
  | alloc elem => rfl
  | box t x => show Do.make (aBox _ _) = Do.make (aBox _ _); rw [h x (by simp [Op.operands])]
  | build t parts => show Do.give (aBuild _ _ _) = Do.give (aBuild _ _ _); rw [partsOf_congr h]
  | buildSlice t len parts => show Do.make (aBuildSlice _ _ _ _) = Do.make (aBuildSlice _ _ _ _); rw [partsOf_congr h]
  | insert t m k x => show Do.deed _ = Do.deed _; rw [h m (by simp [Op.operands]), h k (by simp [Op.operands]), h x (by simp [Op.operands])]
  | load t a => show Do.look _ = Do.look _; rw [h a (by simp [Op.operands])]
  | store t a x => show Do.deed _ = Do.deed _; rw [h a (by simp [Op.operands]), h x (by simp [Op.operands])]
  | ready g => rfl
  | waits g => rfl
  | nilCheck x => show Do.give (aNilCheck _) = Do.give (aNilCheck _); rw [h x (by simp [Op.operands])]
  | binOp op t x y u => show Do.give (aBin _ _ _ _ _ _ _) = Do.give (aBin _ _ _ _ _ _ _); rw [h x (by simp [Op.operands]), h y (by simp [Op.operands])]
  | unOp op t x => show Do.give (aUn _ _ _) = Do.give (aUn _ _ _); rw [h x (by simp [Op.operands])]
  | convert src dst x => show aConvert _ _ _ _ = aConvert _ _ _ _; rw [h x (by simp [Op.operands])]
  | sliceToArrayPointer t x => rfl
  | makeInterface t x => show Do.give (aMakeInterface _ _ _) = Do.give (aMakeInterface _ _ _); rw [h x (by simp [Op.operands])]
  | makeFunc fn first captured =>
    show Do.give (aMakeFunc _ _ _ _) = Do.give (aMakeFunc _ _ _ _)
    have h1 : first.toList.map (aEval tm) = first.toList.map (aEval tm') := List.map_congr_left (fun x hx => h x (by simp [Op.operands]; exact .inl (by simpa using hx)))
    have h2 : captured.toList.map (aEval tm) = captured.toList.map (aEval tm') := List.map_congr_left (fun x hx => h x (by simp [Op.operands]; exact .inr (by simpa using hx)))
    unfold aMakeFunc
    rw [h1, h2]
  | makeMap t r =>
    show Do.make (aMakeMap _ _ _ _) = Do.make (aMakeMap _ _ _ _)
    cases r with
    | none => rfl
    | some r => unfold aMakeMap; simp only; rw [h r (by simp [Op.operands])]
  | makeChan t x => rfl
  | makeSlice t l c => show Do.make (aMakeSlice _ _ _ _) = Do.make (aMakeSlice _ _ _ _); rw [h l (by simp [Op.operands]), h c (by simp [Op.operands])]
  | slice t x lo hi mx =>
    show Do.give (aSlice _ _ _ _ _ _) = Do.give (aSlice _ _ _ _ _ _)
    rw [h x (by simp [Op.operands]), evO_congr (x := lo) (fun y hy => h y (by simp [Op.operands, hy])), evO_congr (x := hi) (fun y hy => h y (by simp [Op.operands, hy])),
      evO_congr (x := mx) (fun y hy => h y (by simp [Op.operands, hy]))]
  | fieldAddr t x f => show Do.give (aFieldAddr _ _ _ _) = Do.give (aFieldAddr _ _ _ _); rw [h x (by simp [Op.operands])]
  | field t x f => show Do.give (aField _ _ _ _) = Do.give (aField _ _ _ _); rw [h x (by simp [Op.operands])]
  | indexAddr t x ix => show Do.give (aIndexAddr _ _ _ _) = Do.give (aIndexAddr _ _ _ _); rw [h x (by simp [Op.operands]), h ix (by simp [Op.operands])]
  | index t x ix => show Do.give (aIndex _ _ _ _) = Do.give (aIndex _ _ _ _); rw [h x (by simp [Op.operands]), h ix (by simp [Op.operands])]
  | lookup t x ix ok => show Do.look _ = Do.look _; rw [h x (by simp [Op.operands]), h ix (by simp [Op.operands])]
  | mapUpdate t m k x => show Do.deed _ = Do.deed _; rw [h m (by simp [Op.operands]), h k (by simp [Op.operands]), h x (by simp [Op.operands])]
  | mapEntry t m k => rfl
  | entryStore t m k x => rfl
  | range t x => show Do.deed _ = Do.deed _; rw [h x (by simp [Op.operands])]
  | next it b => show Do.deed _ = Do.deed _; rw [h it (by simp [Op.operands])]
  | entry it => rfl
  | typeAssert x t u ok => show Do.give (aAssert _ _ _ _) = Do.give (aAssert _ _ _ _); rw [h x (by simp [Op.operands])]
  | extract t ix => show Do.give (aExtract _ _) = Do.give (aExtract _ _); rw [h t (by simp [Op.operands])]
  | call c =>
    show aCall P e tm c = aCall P e tm' c
    have ha : evL tm c.args = evL tm' c.args := evL_congr (fun x hx => h x (by show x ∈ c.operands; exact Call.mem_args hx))
    have hf : ∀ f, c.callee = .value f → aEval tm f = aEval tm' f := fun f hf => h f (by show f ∈ c.operands; unfold Call.operands; rw [hf]; simp)
    have hr : ∀ r n, c.callee = .invoke r n → aEval tm r = aEval tm' r := fun f n hf => h f (by show f ∈ c.operands; unfold Call.operands; rw [hf]; simp)
    unfold aCall
    rw [ha]
    cases hc : c.callee with
    | builtin b => rfl
    | value f => simp only; rw [hf f hc]
    | invoke r n => simp only; rw [hr r n hc]
  | go c => rfl
  | defer c =>
    have ha : evL tm c.args = evL tm' c.args := evL_congr (fun x hx => h x (by show x ∈ c.operands; exact Call.mem_args hx))
    have hf : ∀ f, c.callee = .value f → aEval tm f = aEval tm' f := fun f hf => h f (by show f ∈ c.operands; unfold Call.operands; rw [hf]; simp)
    show Do.deed (aDefer e tm c) = Do.deed (aDefer e tm' c)
    congr 1
    funext s
    unfold aDefer
    rw [ha]
    cases hc : c.callee with
    | builtin b => rfl
    | value f => simp only; rw [hf f hc]
    | invoke r n => rfl
  | panic x => rfl
  | send c x => rfl
  | recv t c b => rfl
  | select cs b => rfl

theorem aConvert_cls {src dst : TypeId} {x y : AV} : (aConvert P src dst x).cls = (aConvert P src dst y).cls := by
  have k4 : ∀ z : AV, (match z with | .lit v => Do.give (litRun P (Go.convert src dst v)) | _ => .give (no "convert") : Do St).cls = 0 := fun z => by split <;> rfl
  have k3 : ∀ (z : AV) (k : IntKind), (match z with | .lit (.int _ n) => Do.give (some (.lit (.int k (wrapF k n)))) | _ => .give none : Do St).cls = 0 := fun z k => by split <;> rfl
  have k2 : ∀ (z : AV) (t : TypeId), (match z with | .lit (.string s) => Do.make (aToBytes P t s) | _ => .give none : Do St).cls = 0 := fun z k => by split <;> rfl
  unfold aConvert
  split
  · rfl
  · exact (k2 x _).trans (k2 y _).symm
  · rfl
  · rfl
  · rfl
  · exact (k3 x _).trans (k3 y _).symm
  · exact (k4 x).trans (k4 y).symm

theorem aBuiltin_cls {b : Builtin} {ts : List TypeId} {l l' : List AV} (h : l.length = l'.length) : (aBuiltin P b ts l).cls = (aBuiltin P b ts l').cls := by
  unfold aBuiltin
  match l, l', h with
  | [], [], _ => rfl
  | [x], [y], _ => cases b <;> cases ts <;> first | rfl | (rename_i t ts; cases ts <;> rfl)
  | [x, x2], [y, y2], _ => cases b <;> cases ts <;> first | rfl | (rename_i t ts; cases ts <;> rfl)
  | x :: x2 :: x3 :: r, y :: y2 :: y3 :: s, _ => cases b <;> cases ts <;> first | rfl | (rename_i t ts; cases ts <;> rfl)

/-- Its class is told by its text. -/
theorem aDo_cls {op : Op} : (aDo op P e tm).cls = opClass P op := by
  cases op with
  | convert src dst x =>
    show (aConvert P src dst _).cls = (aConvert P src dst _).cls
    exact aConvert_cls
  | call c =>
    show (aCall P e tm c).cls = (aCall P env0 tm0 c).cls
    unfold aCall
    cases hc : c.callee with
    | builtin b =>
      have hl : ∀ tm tm', (evL tm c.args).length = (evL tm' c.args).length := fun _ _ => by simp [evL]
      have hl := hl tm tm0
      simp only
      generalize evL tm c.args = l at *
      generalize evL tm0 c.args = l' at *
      exact aBuiltin_cls hl
    | value f => rfl
    | invoke r n => rfl
  | _ => rfl

/-- One that looks asks nothing of what stands around it. -/
theorem aDo_look {op : Op} {f : AW → Option AV} (h : aDo op P e tm = .look f) : aDo op P e' tm = .look f := by
  cases op with
  | convert src dst x => exact h
  | call c =>
    have h : aCall P e tm c = .look f := h
    show aCall P e' tm c = .look f
    unfold aCall at *
    cases hc : c.callee with
    | builtin b => rw [hc] at h; exact h
    | value f => rw [hc] at h; cases h
    | invoke r n => rw [hc] at h; cases h
  | defer c => cases h
  | _ => exact h

/-- A deed passes the slots through. -/
theorem deed_nat {op : Op} {f : St → Option (AV × St)} {z : AV} {tm1 tm2 : Tm} {ds : List ADef} {W : AW} {s' : St} (h : aDo op P e tm = .deed f) (hf : f ⟨tm1, ds, W⟩ = some (z, s')) :
    s'.tm = tm1 ∧ f ⟨tm2, ds, W⟩ = some (z, ⟨tm2, s'.ds, s'.W⟩) := by
  have kW : ∀ {r : AW → Option (AV × AW)}, (fun s : St => onW s (r s.W)) = f → s'.tm = tm1 ∧ f ⟨tm2, ds, W⟩ = some (z, ⟨tm2, s'.ds, s'.W⟩) := by
    rintro r rfl
    obtain ⟨h1, h2, h3⟩ := onW_some hf
    refine ⟨h1, ?_⟩
    show onW _ (r W) = _
    have h3 : r W = some (z, s'.W) := h3
    rw [h3]
    have h2 : s'.ds = ds := h2
    rw [h2]; rfl
  have kU : ∀ {r : AW → Option AW}, (fun s : St => onU s (r s.W)) = f → s'.tm = tm1 ∧ f ⟨tm2, ds, W⟩ = some (z, ⟨tm2, s'.ds, s'.W⟩) := by
    rintro r rfl
    obtain ⟨h1, h2, rfl, h3⟩ := onU_some hf
    refine ⟨h1, ?_⟩
    show onU _ (r W) = _
    have h3 : r W = some s'.W := h3
    rw [h3]
    have h2 : s'.ds = ds := h2
    rw [h2]; rfl
  cases op with
  | insert t m k x =>
    have h : (fun s : St => onU s (aMapUpdate P s.W t (aEval tm m) (aEval tm k) (aEval tm x))) = f := by injection h
    exact kU (r := fun W => aMapUpdate P W t (aEval tm m) (aEval tm k) (aEval tm x)) h
  | store t a x =>
    have h : (fun s : St => onU s (aStore P s.W t (aEval tm a) (aEval tm x))) = f := by injection h
    exact kU (r := fun W => aStore P W t (aEval tm a) (aEval tm x)) h
  | mapUpdate t m k x =>
    have h : (fun s : St => onU s (aMapUpdate P s.W t (aEval tm m) (aEval tm k) (aEval tm x))) = f := by injection h
    exact kU (r := fun W => aMapUpdate P W t (aEval tm m) (aEval tm k) (aEval tm x)) h
  | range t x =>
    have h : (fun s : St => onW s (aRange P s.W t (aEval tm x))) = f := by injection h
    exact kW (r := fun W => aRange P W t (aEval tm x)) h
  | next it b =>
    have h : (fun s : St => onW s (aNext s.W (aEval tm it) b)) = f := by injection h
    exact kW (r := fun W => aNext W (aEval tm it) b) h
  | convert src dst x =>
    have h : aConvert P src dst (aEval tm x) = .deed f := h
    unfold aConvert at h
    split at h
    · cases h
    · split at h <;> cases h
    · cases h
    · cases h
    · have h : (fun q : St => aMark P src dst (aEval tm x) (fun q => q.W.cells) q) = f := by injection h
      subst h
      have hf : aMark P src dst (aEval tm x) (fun q : St => q.W.cells) ⟨tm1, ds, W⟩ = some (z, s') := hf
      clear kW kU
      show s'.tm = tm1 ∧ aMark P src dst (aEval tm x) (fun q : St => q.W.cells) ⟨tm2, ds, W⟩ = some (z, ⟨tm2, s'.ds, s'.W⟩)
      unfold aMark at *
      obtain ⟨hsd, hf⟩ := sel_some hf rfl
      rw [hsd, sel_true]
      split at hf
      · split at hf
        · obtain ⟨c, hc, hf⟩ := ob_some hf
          obtain ⟨hw, hf⟩ := sel_some hf rfl
          cases hf
          refine ⟨rfl, ?_⟩
          rename_i e2 hu _ _ p hu2 hp _ _ _
          have hc2 : (fun q : St => q.W.cells) ⟨tm2, ds, W⟩ p.1 = some c := hc
          rw [hc2]
          show sel c.wr _ _ = _
          rw [hw]; rfl
        · cases hf
      · cases hf
    · split at h <;> cases h
    · split at h <;> cases h
  | call c =>
    have h : aCall P e tm c = .deed f := h
    unfold aCall at h
    cases hc : c.callee with
    | builtin b =>
      rw [hc] at h
      have h : aBuiltin P b c.argTypes.toList (evL tm c.args) = .deed f := h
      generalize evL tm c.args = as at h
      generalize c.argTypes.toList = ats at h
      unfold aBuiltin at h
      split at h <;> try cases h
      · rename_i t u ts x y r _
        exact kW (r := fun W => aAppend P W t (xBasic P u) x y) rfl
      · rename_i t ts x y r _
        exact kW (r := fun W => aCopy P W t x y) rfl
      · rename_i t ts x y r _
        exact kU (r := fun W => aDelete P W t x y) rfl
      · rename_i t ts x r _
        exact kU (r := fun W => aClear P W t x) rfl
      · rename_i t ts x n _
        have hf : aUnsafeString P t x n ⟨tm1, ds, W⟩ = some (z, s') := hf
        show s'.tm = tm1 ∧ aUnsafeString P t x n ⟨tm2, ds, W⟩ = some (z, ⟨tm2, s'.ds, s'.W⟩)
        unfold aUnsafeString at *
        obtain ⟨m, hm, hf⟩ := ob_some hf
        rw [hm]
        show _ ∧ (match m with | 0 => _ | n => _) = _
        split at hf
        · split at hf <;> first | (cases hf; exact ⟨rfl, rfl⟩) | cases hf
        · split at hf
          · rename_i _ hn0 _ u hu
            obtain ⟨p, hp, hf⟩ := ob_some hf
            obtain ⟨c, hc, hf⟩ := ob_some hf
            have hc' : (St.mk tm2 ds W).W.cells p.1 = some c := hc
            split at hf
            · rename_i hsz
              obtain ⟨hg, hf⟩ := sel_some hf rfl
              obtain ⟨l, hl, hf⟩ := ob_some hf
              obtain ⟨bs, hbs, hf⟩ := ob_some hf
              have hl' : (St.mk tm2 ds W).W.read p.1 p.2 m = some l := hl
              cases hf
              refine ⟨rfl, ?_⟩
              cases m with
              | zero => exact absurd rfl hn0
              | succ m =>
                simp only [hp, hu]
                show ob _ _ = _
                show ob (some p) _ = _
                show ob ((St.mk tm2 ds W).W.cells p.1) _ = _
                rw [hc']
                show (match sizeO P c.el with | some 1 => _ | _ => _) = _
                rw [hsz]
                show sel _ _ _ = _
                rw [hg, sel_true, hl']
                show ob (bytes? l) _ = _
                rw [hbs]
                rfl
            · cases hf
          · cases hf
    | value g =>
      rw [hc] at h
      have h : (fun s : St => onW s (aCallValue P e (aEval tm g) (evL tm c.args) s.W)) = f := by injection h
      exact kW (r := fun W => aCallValue P e (aEval tm g) (evL tm c.args) W) h
    | invoke r n =>
      rw [hc] at h
      have h : (fun s : St => onW s (aInvoke P e (aEval tm r) n (evL tm c.args) s.W)) = f := by injection h
      exact kW (r := fun W => aInvoke P e (aEval tm r) n (evL tm c.args) W) h
  | defer c =>
    have h : aDefer e tm c = f := by injection h
    subst h
    unfold aDefer at *
    cases hr : e.inRound with
    | true => rw [hr, sel_true] at hf; cases hf
    | false =>
      rw [hr, sel_false] at hf
      rw [sel_false]
      split at hf
      · split at hf
        · rename_i _ g hc _ g' first captured hfo
          cases hf
          refine ⟨rfl, ?_⟩
          first | rfl | (simp only [hfo]) | trace_state
        · cases hf
      · cases hf
  | _ => first | (have h : Do.give _ = Do.deed _ := h; cases h) | (have h : Do.make _ = Do.deed _ := h; cases h) | (have h : Do.look _ = Do.deed _ := h; cases h)
end
end Go.Ab
