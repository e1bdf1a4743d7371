/- The logic of codes over abstract states. -/
import Derived.Test.YtkmnhomehejppaaAwReg
import Derived.Orders
set_option linter.unusedSimpArgs false
set_option linter.unusedVariables false
set_option linter.deprecated false
namespace Go.Aw

inductive AC where
  | reg (ops : List AO)
  | regD (sk : Bool) (ops : List (Bool × AO))
  | seq (a b : AC)
  | cond (c : Od) (a b : AC)
  | block (id : Nat) (c : AC)
  | loop (c : AC)
  | scope (c : AC)
  | exit (id : Nat)
  | ret
  | skip
  | range (f : Od) (ps : List Nat) (assign body : AC)

def compOps (P : Program) (n : Nat) (ops : Array Oper) : List Oper → Option (List AO)
  | [] => some []
  | o :: r => (compO P n ops o).bind fun x => (compOps P n ops r).map fun l => x :: l

def AOp.isPure : AOp → Bool
  | .alloc _ | .box _ | .mkrow .. | .store .. | .app .. | .callF .. | .callV .. => false
  | _ => true

/-- an order for a region that draws its own: what only reads comes first, what does more comes when nothing else may; 'true': nothing else may come -/
def eager (P : Program) (n : Nat) (ops : Array Oper) : Nat → Array Bool → Option (List (Bool × AO))
  | 0, listed => match Region.ready .any ops listed with
    | [] => some []
    | _ => none
  | fuel + 1, listed => match Region.ready .any ops listed with
    | [] => some []
    | [i] => (ops[i]?).bind fun o => (compO P n ops o).bind fun ao => (eager P n ops fuel (listed.setIfInBounds i true)).map fun l => (true, ao) :: l
    | rs => (rs.find? fun i => Region.free .any ops listed i && ((ops[i]?).bind (compO P n ops)).any (·.op.isPure)).bind fun i =>
      (ops[i]?).bind fun o => (compO P n ops o).bind fun ao => (eager P n ops fuel (listed.setIfInBounds i true)).map fun l => (false, ao) :: l

def noDefer (ops : Array Oper) : Bool := ops.all fun o => match o.op with | .defer _ => false | _ => true
theorem noDefer_spec {ops : Array Oper} (h : noDefer ops = true) (j : Nat) (o : Oper) (ho : ops[j]? = some o) (c : Call) : o.op ≠ .defer c := by
  intro heq
  have := Array.all_eq_true_iff_forall_mem.1 h o (Array.mem_of_getElem? ho)
  simp [heq] at this

/-- every operation but 'q' has one behind it that waits for it -/
def oneSink (ops : Array Oper) (q : Nat) : Bool := (List.range ops.size).all fun i => i == q || (List.range ops.size).any fun j => decide (i < j) && ((ops[j]?).any fun o => o.after.any fun e => Region.binds .any e && e.on == i)
/-- the last operation comes behind all others -/
def sinkLast (ops : Array Oper) (n : Nat) : Bool := decide (0 < ops.size) && decide (n = ops.size) && oneSink ops (ops.size - 1)

def compReg (P : Program) (n : Nat) (ops : Array Oper) (draw : Bool) : Option AC :=
  if draw then (if Region.noSelect ops = true ∧ noDefer ops = true then (eager P n ops ops.size (Array.replicate ops.size false)).map (fun l => .regD (sinkLast ops l.length) l) else none) else (compOps P n ops ops.toList).map .reg

theorem compReg_shape {P : Program} {n : Nat} {ops : Array Oper} {draw : Bool} {ac : AC} (h : compReg P n ops draw = some ac) :
    (∃ l, ac = .reg l ∧ draw = false ∧ compOps P n ops ops.toList = some l) ∨ (∃ l, ac = .regD (sinkLast ops l.length) l ∧ draw = true ∧ (Region.noSelect ops = true ∧ noDefer ops = true) ∧ eager P n ops ops.size (Array.replicate ops.size false) = some l) := by
  unfold compReg at h
  split at h
  · rename_i hd
    split at h
    · rename_i hs
      obtain ⟨l, h1, rfl⟩ := Option.map_eq_some_iff.1 h
      exact .inr ⟨l, rfl, hd, hs, h1⟩
    · cases h
  · rename_i hd
    obtain ⟨l, h1, rfl⟩ := Option.map_eq_some_iff.1 h
    exact .inl ⟨l, rfl, by simpa using hd, h1⟩

def compCode (P : Program) (n : Nat) : Code → Option AC
  | .region _ ops draw => compReg P n ops draw
  | .seq a b => (compCode P n a).bind fun x => (compCode P n b).map (.seq x)
  | .cond c a b => (compCode P n a).bind fun x => (compCode P n b).map (.cond (od c) x)
  | .block id c => (compCode P n c).map (.block id)
  | .loop c => (compCode P n c).map .loop
  | .scope c => (compCode P n c).map .scope
  | .exit id => some (.exit id)
  | .ret => some .ret
  | .skip => some .skip
  | .rangeFunc f ps a b => (compCode P n a).bind fun x => (compCode P n b).map (.range (od f) ps.toList x)
  | _ => none

abbrev Post := Exit → Slots → Own → Prop

def AWP (X : Cx) (ac : AC) (s : Slots) (own : Own) (Q : Post) : Prop :=
  ∀ c, compCode X.P X.n c = some ac → ∀ a w, Rep X s own a w → c.wpIn (wideR X.rd) 0 X.P (liftQ X Q) a w

def thenQ (next : Slots → Own → Prop) (Q : Post) : Post
  | .normal, s, own => next s own
  | e, s, own => Q e s own

def blockQ (id : Nat) (Q : Post) : Post
  | .exit id', s, own => if id' = id then Q .normal s own else Q (.exit id') s own
  | e, s, own => Q e s own

def scopeQ (Q : Post) : Post
  | .goto _, _, _ => False
  | e, s, own => Q e s own

section
variable {X : Cx} {s : Slots} {own : Own} {Q : Post}

theorem awp_mono {ac : AC} {Q' : Post} (h : AWP X ac s own Q) (hq : ∀ e s own, Q e s own → Q' e s own) : AWP X ac s own Q' :=
  fun c hc a w R => wpIn_mono (h c hc a w R) fun _ _ _ ⟨s', own', h1, h2⟩ => ⟨s', own', hq _ _ _ h1, h2⟩

theorem awp_seq {x y : AC} (h : AWP X x s own (thenQ (fun s own => AWP X y s own Q) Q)) : AWP X (.seq x y) s own Q := by
  intro c hc a w R
  cases c <;> first
    | (rcases compReg_shape hc with ⟨_, h, _⟩ | ⟨_, h, _⟩ <;> cases h; done)
    | simp only [compCode, Option.bind_eq_some_iff, Option.map_eq_some_iff, reduceCtorEq, and_false, exists_false, Option.some.injEq, exists_const] at hc
  rename_i ca cb
  obtain ⟨x', hx, y', hy, he⟩ := hc
  cases he
  refine wpIn_seq (wpIn_mono (h ca hx a w R) ?_)
  rintro e a' w' ⟨s', own', h1, h2⟩
  cases e with
  | normal => exact h1 cb hy a' w' h2
  | _ => exact ⟨s', own', h1, h2⟩

theorem awp_cond {x : Od} {l r : AC} (h : match x.ev s with | .bool t => (t = true → AWP X l s own Q) ∧ (t = false → AWP X r s own Q) | _ => False) : AWP X (.cond x l r) s own Q := by
  intro c hc a w R
  cases c <;> first
    | (rcases compReg_shape hc with ⟨_, h, _⟩ | ⟨_, h, _⟩ <;> cases h; done)
    | simp only [compCode, Option.bind_eq_some_iff, Option.map_eq_some_iff, reduceCtorEq, and_false, exists_false, Option.some.injEq, exists_const] at hc
  rename_i cc ca cb
  obtain ⟨x', hx, y', hy, he⟩ := hc
  cases he
  have hr := R.od cc
  cases hv : (od cc).ev s with
  | bool t =>
    rw [hv] at hr
    simp only [hv] at h
    generalize hep : a.eval cc = v at hr
    cases hr
    exact wpIn_cond_split hep (fun ht => h.1 ht _ hx a w R) (fun ht => h.2 ht _ hy a w R)
  | _ => simp [hv] at h

theorem awp_block {id : Nat} {x : AC} (h : AWP X x s own (blockQ id Q)) : AWP X (.block id x) s own Q := by
  intro c hc a w R
  cases c <;> first
    | (rcases compReg_shape hc with ⟨_, h, _⟩ | ⟨_, h, _⟩ <;> cases h; done)
    | simp only [compCode, Option.bind_eq_some_iff, Option.map_eq_some_iff, reduceCtorEq, and_false, exists_false, Option.some.injEq, exists_const] at hc
  obtain ⟨x', hx, he⟩ := hc
  cases he
  refine wpIn_block (wpIn_mono (h _ hx a w R) ?_)
  rintro e a' w' ⟨s', own', h1, h2⟩
  cases e with
  | exit id' =>
    simp only [blockQ] at h1
    simp only [Exit.inBlock]
    split
    · rename_i heq; rw [if_pos heq] at h1; exact ⟨s', own', h1, h2⟩
    · rename_i heq; rw [if_neg heq] at h1; exact ⟨s', own', h1, h2⟩
  | _ => exact ⟨s', own', h1, h2⟩

theorem awp_exit {id : Nat} (h : Q (.exit id) s own) : AWP X (.exit id) s own Q := by
  intro c hc a w R
  cases c <;> first
    | (rcases compReg_shape hc with ⟨_, h, _⟩ | ⟨_, h, _⟩ <;> cases h; done)
    | simp only [compCode, Option.bind_eq_some_iff, Option.map_eq_some_iff, reduceCtorEq, and_false, exists_false, Option.some.injEq, exists_const] at hc
  cases hc
  exact wpIn_exit ⟨s, own, h, R⟩

theorem awp_ret (h : Q .ret s own) : AWP X .ret s own Q := by
  intro c hc a w R
  cases c <;> first
    | (rcases compReg_shape hc with ⟨_, h, _⟩ | ⟨_, h, _⟩ <;> cases h; done)
    | simp only [compCode, Option.bind_eq_some_iff, Option.map_eq_some_iff, reduceCtorEq, and_false, exists_false, Option.some.injEq, exists_const] at hc
  exact wpIn_ret ⟨s, own, h, R⟩

theorem awp_skip (h : Q .normal s own) : AWP X .skip s own Q := by
  intro c hc a w R
  cases c <;> first
    | (rcases compReg_shape hc with ⟨_, h, _⟩ | ⟨_, h, _⟩ <;> cases h; done)
    | simp only [compCode, Option.bind_eq_some_iff, Option.map_eq_some_iff, reduceCtorEq, and_false, exists_false, Option.some.injEq, exists_const] at hc
  exact wpIn_skip ⟨s, own, h, R⟩

/-- one state says no less than the other -/
def Ent (X : Cx) (s : Slots) (own : Own) (s' : Slots) (own' : Own) : Prop := ∀ a w, Rep X s own a w → Rep X s' own' a w

/-- a loop: 'st' gives the state at each round's head -/
theorem awp_loop {ι : Type} {x : AC} (st : ι → Slots) (ow : ι → Own) (μ : ι → Nat) (i0 : ι) (h0 : Ent X s own (st i0) (ow i0))
    (round : ∀ i, AWP X x (st i) (ow i) (thenQ (fun s own => ∃ j, μ j < μ i ∧ Ent X s own (st j) (ow j)) Q)) : AWP X (.loop x) s own Q := by
  intro c hc a w R
  cases c <;> first
    | (rcases compReg_shape hc with ⟨_, h, _⟩ | ⟨_, h, _⟩ <;> cases h; done)
    | simp only [compCode, Option.bind_eq_some_iff, Option.map_eq_some_iff, reduceCtorEq, and_false, exists_false, Option.some.injEq, exists_const] at hc
  rename_i cb
  obtain ⟨x', hx, he⟩ := hc
  cases he
  intro b k cs hro hbf hrm
  have key : ∀ n i a w, μ i = n → Rep X (st i) (ow i) a w → ∃ e a' w', liftQ X Q e a' w' ∧ ArrivesIn (Machine.fenced X.P (wideR X.rd)) X.P (lone (b.atR a (.code cb :: .inLoop cb :: k)) cs w) b k cs e a' w' := by
    intro n
    induction n using Nat.strongRecOn with
    | _ n ih =>
      intro i a w hn hR
      obtain ⟨e, a₁, w₁, ⟨s₁, own₁, hq, hR₁⟩, harr⟩ := round i cb hx a w hR b (.inLoop cb :: k) cs hro hbf hrm
      cases e with
      | normal =>
        obtain ⟨j, hlt, hent⟩ := hq
        obtain ⟨e₂, a₂, w₂, hq₂, harr₂⟩ := ih (μ j) (hn ▸ hlt) j a₁ w₁ rfl (hent a₁ w₁ hR₁)
        exact ⟨e₂, a₂, w₂, hq₂, .of_steps (StepsIn.trans harr (.one (fenced_calm hbf hrm rfl) stepR_inLoop)) harr₂⟩
      | exit id => exact ⟨_, a₁, w₁, ⟨s₁, own₁, hq, hR₁⟩, .pass (x := .inLoop cb) rfl (fun _ _ => .inl (by simp)) harr⟩
      | goto l => exact ⟨_, a₁, w₁, ⟨s₁, own₁, hq, hR₁⟩, .pass (x := .inLoop cb) rfl (fun _ _ => .inl (by simp)) harr⟩
      | ret => exact ⟨_, a₁, w₁, ⟨s₁, own₁, hq, hR₁⟩, .pass (x := .inLoop cb) rfl (fun _ _ => .inl (by simp)) harr⟩
      | panic ch => exact ⟨_, a₁, w₁, ⟨s₁, own₁, hq, hR₁⟩, .pass (x := .inLoop cb) rfl (fun _ _ => .inl (by simp)) harr⟩
      | outgrown => exact ⟨_, a₁, w₁, ⟨s₁, own₁, hq, hR₁⟩, .pass (x := .inLoop cb) rfl (fun _ _ => .inl (by simp)) harr⟩
  obtain ⟨e, a', w', hq, harr⟩ := key _ i0 a w rfl (h0 a w R)
  exact ⟨e, a', w', hq, .of_steps (.one (fenced_calm hbf hrm rfl) stepR_loop) harr⟩

/-- a region in the order of its text -/
theorem runA_sound {K : Slots → Own → Prop} (ops : Array Oper) : ∀ (l : List Oper) (k : Nat) (aos : List AO), (∀ j, l[j]? = ops[k + j]?) → compOps X.P X.n ops l = some aos →
    ∀ s own a w, Rep X s own a w → runA X Q K aos s own → wpOpsIn (wideR X.rd) 0 X.P ops (liftQ X (thenQ K Q)) (List.range' k l.length) a w
  | [], k, aos, hl, hc, s, own, a, w, R, h => by
    simp only [compOps, Option.some.injEq] at hc
    subst hc
    exact ⟨s, own, h, R⟩
  | o :: l, k, aos, hl, hc, s, own, a, w, R, h => by
    simp only [compOps, Option.bind_eq_some_iff, Option.map_eq_some_iff] at hc
    obtain ⟨ao, hao, aos', haos, rfl⟩ := hc
    obtain ⟨hcp, hd, hdn⟩ := compO_op hao
    have h0 : ops[k]? = some o := by simpa using (hl 0).symm
    have ih := fun s own a w => runA_sound (K := K) ops l (k + 1) aos' (fun j => by have := hl (j + 1); simpa [Nat.add_assoc, Nat.add_comm 1 j] using this) haos s own a w
    simp only [List.length_cons, List.range'_succ, wpOpsIn, h0]
    simp only [runA] at h
    rcases guard_sound R ops o X.n ao hao h with ⟨hw, h⟩ | ⟨hw, h⟩
    · rw [if_pos hw]
      rw [hd] at h
      exact op_sound R o hdn ao.op hcp h _ _ (fun s' own' a' w' hK hR => ih s' own' a' w' hR hK) (fun c a' w' h => h)
    · rw [if_neg (by simp [hw])]
      rw [hd] at h
      exact ⟨fun _ _ => trivial, ih _ _ _ _ (R.put o.dst hdn (rel_undef _ _)) h⟩

theorem comp_reg {P : Program} {n : Nat} {c : Code} {ops : List AO} (hc : compCode P n c = some (.reg ops)) : ∃ id rops, c = .region id rops false ∧ compOps P n rops rops.toList = some ops := by
  cases c <;> first
    | (obtain ⟨l, h1, h2, h3⟩ | ⟨l, h1, _⟩ := compReg_shape hc
       · cases h1
         subst h2
         exact ⟨_, _, rfl, h3⟩
       · cases h1)
    | (simp only [compCode, Option.bind_eq_some_iff, Option.map_eq_some_iff, reduceCtorEq, and_false, exists_false, Option.some.injEq, exists_const] at hc; done)

theorem comp_regD {P : Program} {n : Nat} {c : Code} {sk : Bool} {ops : List (Bool × AO)} (hc : compCode P n c = some (.regD sk ops)) : ∃ id rops, sk = sinkLast rops ops.length ∧ c = .region id rops true ∧ (Region.noSelect rops = true ∧ noDefer rops = true) ∧ eager P n rops rops.size (Array.replicate rops.size false) = some ops := by
  cases c <;> first
    | (obtain ⟨l, h1, _⟩ | ⟨l, h1, h2, h3, h4⟩ := compReg_shape hc
       · cases h1
       · cases h1
         subst h2
         exact ⟨_, _, rfl, rfl, h3, h4⟩)
    | (simp only [compCode, Option.bind_eq_some_iff, Option.map_eq_some_iff, reduceCtorEq, and_false, exists_false, Option.some.injEq, exists_const] at hc; done)

theorem awp_reg {ops : List AO} (h : ∀ (K : Slots → Own → Prop) (Q' : Post), (∀ s own, Q .normal s own → K s own) → (∀ c s own, Q (.panic c) s own → Q' (.panic c) s own) → runA X Q' K ops s own) : AWP X (.reg ops) s own Q := by
  intro c hc a w R
  obtain ⟨id, rops, rfl, hx⟩ := comp_reg hc
  have := runA_sound (Q := Q) (K := Q .normal) rops rops.toList 0 ops (by simp) hx s own a w R (h _ _ (fun _ _ h => h) (fun _ _ _ h => h))
  have hq : thenQ (Q .normal) Q = Q := by
    funext e
    cases e <;> rfl
  rw [hq] at this
  refine wpIn_region ?_
  rw [List.range_eq_range']
  exact this
end

/-! ### functions -/
inductive RV where
  | tmp (t : Nat)
  | cell (ag : Bool) (sz : Nat) (a : Nat)

def compRes (P : Program) : List ResultVar → Option (List RV)
  | [] => some []
  | .tmp t :: r => (compRes P r).map fun l => .tmp t :: l
  | .cell a t :: r => if aggB P t then (P.info? t).bind fun i => (compRes P r).map fun l => .cell true i.size a :: l else
      if (P.underlying t).isSome then (compRes P r).map fun l => .cell false 1 a :: l else none

def resK (s : Slots) (own : Own) : List RV → (List AV → Prop) → Prop
  | [], K => K []
  | .tmp t :: r, K => resK s own r fun l => K (s.get t :: l)
  | .cell ag sz a :: r, K => cellsAt own (s.get a) sz fun cs => resK s own r fun l => K (mk ag cs :: l)

def resV : List AV → AV
  | [v] => v
  | vs => .tup vs

/-- what is left owned, under whatever labels -/
def Leaves (own : Own) (G : Own → Prop) : Prop := ∃ o : Own, (o.map fun e => e.2).Sublist (own.map fun e => e.2) ∧ G o

def retQ (rs : List RV) (R : Res → Own → Prop) : Post
  | .normal, s, own => resK s own rs fun vs => Leaves own (R (.val (resV vs)))
  | .ret, s, own => resK s own rs fun vs => Leaves own (R (.val (resV vs)))
  | .panic c, _, own => Leaves own (R (.pan c))
  | _, _, _ => False

def argS : Nat → List AV → Slots
  | _, [] => []
  | k, x :: r => (k, x) :: argS (k + 1) r

theorem argS_get : ∀ (args : List AV) (k t : Nat), (argS k args).get t = if k ≤ t then args.getD (t - k) .any else .any
  | [], k, t => by simp [argS, Slots.get]
  | x :: r, k, t => by
    simp only [argS, Slots.get]
    by_cases h : k = t
    · subst h; simp
    · rw [if_neg h, argS_get r (k + 1) t]
      by_cases h2 : k + 1 ≤ t
      · rw [if_pos h2, if_pos (by omega), show t - k = (t - (k + 1)) + 1 by omega]
        rfl
      · rw [if_neg h2]
        by_cases h3 : k ≤ t
        · omega
        · rw [if_neg h3]

def resM (tmps : Array Value) : ResultVar → Sem Value
  | .tmp t => pure (tmps.getD t undef)
  | .cell q t => do loadVar t (← asAddr (tmps.getD q undef))

section
variable {X : Cx} {s : Slots} {own : Own} {a : Act} {w : World}

theorem cellsAt_mono {x : AV} {sz : Nat} {K K' : List AV → Prop} (hk : ∀ c, K c → K' c) (h : cellsAt own x sz K) : cellsAt own x sz K' := by
  cases x <;> simp only [cellsAt] at h ⊢
  · split at h
    · exact ⟨h.1, hk _ h.2⟩
    · exact h
  · exact ⟨h.1, hk _ h.2⟩

theorem res_list (R : Rep X s own a w) : ∀ (l : List ResultVar) (rs : List RV) (_ : compRes X.P l = some rs) (K : List AV → Prop), resK s own rs K →
    ∃ vs : List Value, (l.mapM (resM a.tmps)).run X.P w = .ok vs w ∧
      ∃ xs, K xs ∧ vs.length = xs.length ∧ ∀ (j : Nat) (v : Value) (y : AV), vs[j]? = some v → xs[j]? = some y → Rel (Fo X.fr own) w v y
  | [], rs, hc, K, h => by
    simp only [compRes, Option.some.injEq] at hc
    subst hc
    exact ⟨[], by simp, [], h, rfl, by simp⟩
  | .tmp t :: l, rs, hc, K, h => by
    simp only [compRes, Option.map_eq_some_iff] at hc
    obtain ⟨rs', hc', rfl⟩ := hc
    obtain ⟨vs, hrun, xs, hK, hl, hr⟩ := res_list R l rs' hc' _ h
    refine ⟨a.tmps.getD t undef :: vs, by simp only [List.mapM_cons, resM, Sem.run_bind, Sem.run_pure, Result.andThen_ok, hrun], _, hK, by simp [hl], fun j v y hj hy => ?_⟩
    cases j with
    | zero =>
      simp only [List.getElem?_cons_zero, Option.some.injEq] at hj hy
      rw [← hj, ← hy]
      exact R.tm t
    | succ j => exact hr j v y (by simpa using hj) (by simpa using hy)
  | .cell q t :: l, rs, hc, K, h => by
    simp only [compRes] at hc
    have go : ∀ (ag : Bool) (sz : Nat) (rs' : List RV), rs = .cell ag sz q :: rs' → compRes X.P l = some rs' → (∀ b o, ∀ vs : List Value, vs.length = sz → (∀ (j : Nat) v, vs[j]? = some v → w.cell? ⟨b, o + j, none⟩ = some v ∧ v.oneCell' = true) →
        ∀ cs : List AV, cs.length = sz → (∀ (j : Nat) (v : Value) (y : AV), vs[j]? = some v → cs[j]? = some y → Rel (Fo X.fr own) w v y) → ∃ v, (loadVar t ⟨b, o, none⟩).run X.P w = .ok v w ∧ Rel (Fo X.fr own) w v (mk ag cs)) → ∃ vs : List Value, ((.cell q t :: l : List ResultVar).mapM (resM a.tmps)).run X.P w = .ok vs w ∧
      ∃ xs, K xs ∧ vs.length = xs.length ∧ ∀ (j : Nat) (v : Value) (y : AV), vs[j]? = some v → xs[j]? = some y → Rel (Fo X.fr own) w v y := by
      intro ag sz rs' hrs hc' hld
      subst hrs
      simp only [resK] at h
      obtain ⟨b, o, cs, vs0, hv, hK, hvl, hcl, hb, hcell, hrel⟩ := addr_cells (K := fun cs => resK s own rs' fun l => K (mk ag cs :: l)) R (R.tm q) h
      obtain ⟨v, hload, hvr⟩ := hld b o vs0 hvl hcell cs hcl hrel
      obtain ⟨vs, hrun, xs, hK', hl, hr⟩ := res_list R l rs' hc' _ hK
      refine ⟨v :: vs, by simp only [List.mapM_cons, resM, hv, Sem.run_bind, show (asAddr (.pointer (some ⟨b, o, none⟩))).run X.P w = .ok ⟨b, o, none⟩ w from rfl, Sem.run_pure, Result.andThen_ok, hload, hrun], _, hK', by simp [hl], fun j u y hj hy => ?_⟩
      cases j with
      | zero =>
        simp only [List.getElem?_cons_zero, Option.some.injEq] at hj hy
        rw [← hj, ← hy]
        exact hvr
      | succ j => exact hr j u y (by simpa using hj) (by simpa using hy)
    split at hc
    · rename_i hag
      simp only [Option.bind_eq_some_iff, Option.map_eq_some_iff] at hc
      obtain ⟨i, hi, rs', hc', he⟩ := hc
      refine go true i.size rs' he.symm hc' (fun b o vs hvl hcell cs hcl hrel => ⟨_, loadVar_agg hag hi w b o vs hvl (fun j v hj => (hcell j v hj).1), rel_mk (by omega) (fun j v hj => (hcell j v hj).2) hrel⟩)
    · rename_i hag
      split at hc
      · rename_i hsome
        obtain ⟨d, hd⟩ := Option.isSome_iff_exists.1 hsome
        simp only [Option.map_eq_some_iff] at hc
        obtain ⟨rs', hc', he⟩ := hc
        refine go false 1 rs' he.symm hc' (fun b o vs hvl hcell cs hcl hrel => ?_)
        obtain ⟨v, rfl⟩ := List.length_eq_one_iff.1 hvl
        obtain ⟨x, rfl⟩ := List.length_eq_one_iff.1 hcl
        exact ⟨v, loadVar_one (by simpa using hag) hd w b o v (hcell 0 v rfl).1, hrel 0 v x rfl rfl⟩
      · cases hc

end

def retV : List Value → Value
  | [v] => v
  | vs => .tuple vs.toArray

theorem results_run {P : Program} (fn : Func) (tmps : Array Value) (w : World) (vs : List Value) (h : (fn.results.toList.mapM (resM tmps)).run P w = .ok vs w) :
    (results fn tmps).run P w = .ok (retV vs) w := by
  show (do let vs ← fn.results.mapM (resM tmps); pure (if h : vs.size = 1 then vs[0] else .tuple vs) : Sem Value).run P w = _
  rw [Array.mapM_eq_mapM_toList]
  simp only [Sem.run_bind, Sem.run_map, h, Result.andThen_ok, Sem.run_pure]
  clear h
  match vs with
  | [] => rfl
  | [v] => rfl
  | _ :: _ :: _ => rfl

/-- A function's contract, out of the logic of its code. -/
theorem fn_intro {P : Program} {f : FuncId} {fn : Func} {c : Code} {ac : AC} {rs : List RV} (hf : P.funcs[f]? = some fn) (hb : fn.body = some c) (hc : compCode P fn.ntmps c = some ac) (hres : compRes P fn.results.toList = some rs)
    {args : List AV} {own : Own} {R : Res → Own → Prop} (hn : args.length ≤ fn.ntmps) (h : ∀ fr w0, AWP ⟨P, fr, w0, own.has, fn.ntmps, [], none⟩ ac (argS 0 args) own (retQ rs R)) : FnC P f args own R := by
  intro fr vs w hl hr hok
  let X : Cx := ⟨P, fr, w, own.has, fn.ntmps, [], none⟩
  have R0 : Rep X (argS 0 args) own { tmps := vs ++ Array.replicate (fn.ntmps - vs.size) undef, defers := [] } w := by
    refine ⟨fun t => ?_, hok, fun b hb => .inl hb, by simp [X]; omega, ⟨[], rfl, List.nodup_nil, by simp⟩, Grow.refl _ _⟩
    rw [argS_get, if_pos (Nat.zero_le _), Nat.sub_zero]
    rcases Nat.lt_or_ge t args.length with hlt | hge
    · have h1 : vs[t]? = some vs[t] := Array.getElem?_eq_getElem (by omega)
      have h2 : args[t]? = some args[t] := List.getElem?_eq_getElem hlt
      have := hr t _ _ h1 h2
      simp only [Array.getD_eq_getD_getElem?, Array.getElem?_append_left (show t < vs.size by omega), h1, Option.getD_some, List.getD, h2]
      exact this
    · simp only [List.getD, List.getElem?_eq_none hge, Option.getD_none]
      exact .any _
  have hR1 : ∀ {e a' w'}, liftQ X (retQ rs R) e a' w' → bodyPostM (wideR none) 0 P fn (EndsA fr own R w) e a' w' := by
    rintro e a' w' ⟨s', own', hq, hR0⟩
    obtain ⟨bs, hd0, hn0, hb0⟩ := hR0.defs
    have hR' := hR0.shut hn0 hb0 rfl
    have hd1 : a'.defers = bs.map markD := by simpa [X] using hd0
    generalize hw1 : Aw.shut w' bs = w1 at hR'
    have leave : ∀ o : Own, (o.map fun e => e.2).Sublist (own'.map fun e => e.2) → Rep X s' o { a' with defers := [] } w1 := by
      intro o ho
      have hm : ∀ e, e ∈ o → ∃ e0, e0 ∈ own' ∧ e0.2 = e.2 := fun e he => by
        obtain ⟨e0, h0, h1⟩ := List.mem_map.1 (ho.subset (List.mem_map.2 ⟨e, he, rfl⟩))
        exact ⟨e0, h0, h1⟩
      refine hR'.reown o (fun e he => ?_) ?_
      · obtain ⟨e0, h0, h1⟩ := hm e he
        exact ⟨e0, h0, by rw [h1], by rw [h1]; exact ObLe.refl _⟩
      · have h1 := ho.map (fun p : Nat × Ob => p.1)
        simp only [List.map_map] at h1
        exact h1.nodup hR'.ok.nodup
    have fin : resK s' own' rs (fun vs => Leaves own' (R (.val (resV vs)))) → LeavesInM (wideR none) 0 P fn a'.tmps (EndsA fr own R w) a'.defers .returning w' := by
      intro hres'
      obtain ⟨vs', hrun, xs, hK, hvl, hrel⟩ := res_list hR' fn.results.toList rs hres _ hres'
      obtain ⟨o, ho, hK⟩ := hK
      have hRo := leave o ho
      have hle : ∀ b, Fo fr o b → Fo fr own' b := fun b hb => by
        rcases hb with hb | hb
        · exact .inl hb
        · have h1 := ho.map (fun p : Nat × Ob => p.1)
          simp only [List.map_map] at h1
          exact .inr (h1.subset hb)
      have hrel : ∀ (j : Nat) (v : Value) (y : AV), vs'[j]? = some v → xs[j]? = some y → Rel (Fo fr o) w1 v y := fun j v y hj hy => (hrel j v y hj hy).mono (Grow.refl _ _) (fun b _ hb => hle b hb)
      rw [hd1]
      refine leaves_marks (by simp) bs w' hn0 (fun b hb => (hb0 b hb).2.2.2) ?_
      rw [hw1]
      refine ⟨_, results_run fn a'.tmps w1 vs' hrun, .val (resV xs), o, hK, ⟨_, rfl, ?_⟩, hRo.ok, hRo.kept, hRo.new⟩
      clear hrun hK
      match vs', xs, hvl, hrel with
      | [], [], _, _ => exact .tup _ _ rfl (by simp)
      | [v], [x], _, hrel => exact hrel 0 v x rfl rfl
      | v :: v' :: vs', x :: x' :: xs, hvl, hrel => exact .tup _ _ (by simpa using hvl) (fun j u y hj hy => hrel j u y (by simpa using hj) hy)
    cases e with
    | normal => exact fin hq
    | ret => exact fin hq
    | panic ch =>
      obtain ⟨o, ho, hK⟩ := hq
      have hRo := leave o ho
      show LeavesInM _ _ _ _ _ _ _ _ _
      rw [hd1]
      refine leaves_marks (by simp) bs w' hn0 (fun b hb => (hb0 b hb).2.2.2) ?_
      rw [hw1]
      exact ⟨.pan ch, o, hK, rfl, hRo.ok, hRo.kept, hRo.new⟩
    | _ => exact hq.elim
  refine (callsIn_wideR (r := none) (n := 0)).1 (callsIn_of_wp_marks hf hb trivial (wpIn_mono (h fr w c hc _ w R0) fun e a' w' h => hR1 h))

/-- The same, the code out of the function's own text. -/
theorem fn_intro' {P : Program} {f : FuncId} {fn : Func} {ac : AC} {rs : List RV} (n : Nat) (hf : P.funcs[f]? = some fn) (hnt : fn.ntmps = n) (hc : fn.body.bind (compCode P n) = some ac) (hres : compRes P fn.results.toList = some rs)
    {args : List AV} {own : Own} {R : Res → Own → Prop} (hn : args.length ≤ n) (h : ∀ X : Cx, X.P = P → X.n = n → X.defs = [] → X.rd = none → AWP X ac (argS 0 args) own (retQ rs R)) : FnC P f args own R := by
  subst hnt
  obtain ⟨c, hb, hc⟩ := Option.bind_eq_some_iff.1 hc
  exact fn_intro hf hb hc hres hn fun fr w0 => h _ rfl rfl rfl rfl

/-- what is said of slots and of what is owned may be less -/
theorem ent_of {X : Cx} {s : Slots} {own : Own} {s' : Slots} {own' : Own} (h1 : ∀ t, s'.get t = .any ∨ s'.get t = s.get t) (h2 : own'.Sublist own) : Ent X s own s' own' := by
  intro a w R
  have R2 := R.reown own' (fun e he => ⟨e, h2.subset he, rfl, ObLe.refl _⟩) ((h2.map _).nodup R.ok.nodup)
  refine ⟨fun t => ?_, R2.ok, R2.new, R2.size, R2.defs, R2.kept⟩
  rcases h1 t with h | h
  · rw [h]; exact .any _
  · rw [h]; exact R2.tm t

/-- slots named -/
def Slots.sub (s' s : Slots) : Prop :=
  match s' with
  | [] => True
  | (t, x) :: r => s.get t = x ∧ Slots.sub r s

theorem sub_get : ∀ (s' s : Slots), s'.sub s → ∀ t, s'.get t = .any ∨ s'.get t = s.get t
  | [], _, _, _ => .inl rfl
  | (k, x) :: r, s, h, t => by
    simp only [Slots.get]
    by_cases hk : k = t
    · subst hk
      rw [if_pos rfl]
      exact .inr h.1.symm
    · rw [if_neg hk]
      exact sub_get r s h.2 t

theorem ent_sub {X : Cx} {s : Slots} {own : Own} {s' : Slots} {own' : Own} (h1 : s'.sub s) (h2 : own'.Sublist own) : Ent X s own s' own' := ent_of (sub_get s' s h1) h2

/-- A contract at a call: 'hand' of what is owned is handed over. -/
theorem callG_of {C : Array Value → World → (Ending → World → Prop) → Prop} (hC : ∀ vs w R R', C vs w R → (∀ e w, R e w → R' e w) → C vs w R') {fr : Nat → Prop} {args : List AV} {own hand rest : Own} {R R' : Res → Own → Prop} (h : ∀ fr, CallG C fr args hand R) (hp : own.Perm (hand ++ rest)) (hk : ∀ r own', R r own' → R' r (own' ++ rest)) : CallG C fr args own R' := by
  intro vs w hl hr hok
  have hhas : ∀ b, own.has b ↔ (hand.has b ∨ rest.has b) := fun b => by
    unfold Own.has
    rw [(hp.map _).mem_iff, List.map_append, List.mem_append]
  have hnd : ((hand.map fun e => e.2.1) ++ (rest.map fun e => e.2.1)).Nodup := by
    have := (hp.map (fun e => e.2.1)).nodup_iff.1 hok.nodup
    rwa [List.map_append] at this
  obtain ⟨hnd1, hnd2, hnd3⟩ := List.nodup_append.1 hnd
  let fr' : Nat → Prop := fun b => fr b ∨ rest.has b
  have hF : ∀ b, Fo fr' hand b ↔ Fo fr own b := fun b => by
    unfold Fo
    rw [hhas]
    show (fr b ∨ rest.has b) ∨ hand.has b ↔ _
    constructor
    · rintro ((h | h) | h)
      · exact .inl h
      · exact .inr (.inr h)
      · exact .inr (.inl h)
    · rintro (h | h | h)
      · exact .inl (.inl h)
      · exact .inr h
      · exact .inl (.inr h)
  have hlt : ∀ b, own.has b → b < w.heap.size := fun b hb => by
    obtain ⟨e, he, rfl⟩ := List.mem_map.1 hb
    exact (hok.holds e he).lt
  have ok' : OwnOk fr' w hand := by
    refine ⟨fun e he => ?_, hnd1, fun b hb => ?_, fun b hb => ?_⟩
    · exact (hok.holds e (hp.mem_iff.2 (List.mem_append_left _ he))).mono (Grow.refl (fun _ => False) w) (fun _ f => f.elim) (fun f => f) (fun b _ hb => (hF b).1 hb)
    · rintro (h1 | h1)
      · exact hok.apart b ((hhas b).2 (.inl hb)) h1
      · exact hnd3 _ hb _ h1 rfl
    · rcases hb with h1 | h1
      · exact hok.fr b h1
      · exact hlt b ((hhas b).2 (.inr h1))
  refine hC _ _ _ _ (h fr' vs w hl (fun j v y hj hy => (hr j v y hj hy).mono (Grow.refl _ _) (fun b _ hb => (hF b).1 hb)) ok') ?_
  rintro e w' ⟨r, own', hR, he, hok', hg, hnew⟩
  have hF' : ∀ b, Fo fr (own' ++ rest) b ↔ Fo fr' own' b := fun b => by
    show fr b ∨ Own.has (own' ++ rest) b ↔ (fr b ∨ rest.has b) ∨ own'.has b
    unfold Own.has
    rw [List.map_append, List.mem_append]
    constructor
    · rintro (h | h | h)
      · exact .inl (.inl h)
      · exact .inr h
      · exact .inl (.inr h)
    · rintro ((h | h) | h)
      · exact .inl h
      · exact .inr (.inr h)
      · exact .inr (.inl h)
  have hrest : ∀ b, rest.has b → ¬ hand.has b := fun b h1 h2 => hnd3 _ h2 _ h1 rfl
  refine ⟨r, own' ++ rest, hk r own' hR, ?_, ⟨fun e he => ?_, ?_, fun b hb => ?_, fun b hb => Nat.lt_of_lt_of_le (hok.fr b hb) hg.sz⟩, hg.mono (fun b _ hb => (hhas b).2 (.inl hb)), fun b hb => ?_⟩
  · cases r with
    | val x =>
      obtain ⟨v, hv, hrel⟩ := he
      exact ⟨v, hv, hrel.mono (Grow.refl _ _) (fun b _ hb => (hF' b).1 hb)⟩
    | pan c => exact he
  · rcases List.mem_append.1 he with he | he
    · exact (hok'.holds e he).mono (Grow.refl (fun _ => False) w') (fun _ f => f.elim) (fun f => f) (fun b _ hb => (hF' b).1 hb)
    · have hin : rest.has e.2.1 := List.mem_map.2 ⟨e, he, rfl⟩
      refine (hok.holds e (hp.mem_iff.2 (List.mem_append_right _ he))).mono hg (fun b hb => .inr ((hhas b).2 (.inl hb))) (hrest _ hin) (fun b hb hfo => ?_)
      rcases (hF' b).1 hfo with h1 | h1
      · rcases h1 with h1 | h1
        · exact .inl h1
        · exact .inr ((hhas b).2 (.inr h1))
      · rcases hnew b h1 with h2 | h2
        · exact .inr ((hhas b).2 (.inl h2))
        · omega
  · rw [List.map_append]
    refine List.nodup_append.2 ⟨hok'.nodup, hnd2, fun x hx y hy hxy => ?_⟩
    subst hxy
    exact hok'.apart x hx (.inr hy)
  · unfold Own.has at hb
    rw [List.map_append, List.mem_append] at hb
    rcases hb with hb | hb
    · exact fun h1 => hok'.apart b hb (.inl h1)
    · exact hok.apart b ((hhas b).2 (.inr hb))
  · unfold Own.has at hb
    rw [List.map_append, List.mem_append] at hb
    rcases hb with hb | hb
    · rcases hnew b hb with h1 | h1
      · exact .inl ((hhas b).2 (.inl h1))
      · exact .inr h1
    · exact .inl ((hhas b).2 (.inr hb))

theorem call_of {P : Program} {fr : Nat → Prop} {f : FuncId} {args : List AV} {own hand rest : Own} {R R' : Res → Own → Prop} (h : FnC P f args hand R) (hp : own.Perm (hand ++ rest)) (hk : ∀ r own', R r own' → R' r (own' ++ rest)) : CallA P fr f args own R' :=
  callG_of (fun _ _ _ _ h hr => h.mono hr) h hp hk

theorem val_of {P : Program} {fr : Nat → Prop} {v : AV} {args : List AV} {own hand rest : Own} {R R' : Res → Own → Prop} (h : ValC P v args hand R) (hp : own.Perm (hand ++ rest)) (hk : ∀ r own', R r own' → R' r (own' ++ rest)) : ValA P fr v args own R' := by
  unfold ValC ValA at h
  unfold ValA
  split
  · exact ⟨(h fr).1, callG_of (fun _ _ _ _ h hr => h.mono hr) (fun fr => (h fr).2) hp hk⟩
  · exact callG_of (fun _ _ _ _ h hr => h.mono hr) h hp hk
  · rename_i h1 h2
    have := h fr
    split at this
    · exact absurd rfl (h1 _ _ _)
    · exact absurd rfl (h2 _)
    · exact this.elim

/-- A function that gives 'x' and leaves no trace. -/
def PureC (P : Program) (f : FuncId) (args : List AV) (x : AV) : Prop := FnC P f args [] fun r o => r = .val x ∧ o = []

section
variable {X : Cx} {s : Slots} {own : Own} {Q : Post}
theorem awp_if {x : Od} {l r : AC} (t : Bool) (hx : x.ev s = .bool t) (h1 : t = true → AWP X l s own Q) (h2 : t = false → AWP X r s own Q) : AWP X (.cond x l r) s own Q :=
  awp_cond (by rw [hx]; exact ⟨h1, h2⟩)
theorem awp_then {x : Od} {l r : AC} (hx : x.ev s = .bool true) (h : AWP X l s own Q) : AWP X (.cond x l r) s own Q :=
  awp_cond (by rw [hx]; exact ⟨fun _ => h, fun h => (by cases h)⟩)
theorem awp_else {x : Od} {l r : AC} (hx : x.ev s = .bool false) (h : AWP X r s own Q) : AWP X (.cond x l r) s own Q :=
  awp_cond (by rw [hx]; exact ⟨fun h => (by cases h), fun _ => h⟩)
theorem exit_here {id : Nat} (h : Q .normal s own) : blockQ id Q (.exit id) s own := by
  simp only [blockQ, if_true]
  exact h
theorem exit_on {id id' : Nat} (hne : (id' == id) = false) (h : Q (.exit id') s own) : blockQ id Q (.exit id') s own := by
  simp only [blockQ, if_neg (show ¬ id' = id by simpa using hne)]
  exact h
theorem then_exit {id : Nat} {n : Slots → Own → Prop} (h : Q (.exit id) s own) : thenQ n Q (.exit id) s own := h
theorem then_ret {n : Slots → Own → Prop} (h : Q .ret s own) : thenQ n Q .ret s own := h
theorem then_normal {n : Slots → Own → Prop} (h : n s own) : thenQ n Q .normal s own := h
theorem blk_ret {id : Nat} (h : Q .ret s own) : blockQ id Q .ret s own := h
theorem blk_normal {id : Nat} (h : Q .normal s own) : blockQ id Q .normal s own := h
theorem ret_q {rs : List RV} {R : Res → Own → Prop} (h : resK s own rs fun vs => Leaves own (R (.val (resV vs)))) : retQ rs R .ret s own := h
theorem ret_n {rs : List RV} {R : Res → Own → Prop} (h : resK s own rs fun vs => Leaves own (R (.val (resV vs)))) : retQ rs R .normal s own := h
theorem resK_nil {G : List AV → Prop} : resK s own [] G = G [] := by rfl
theorem resK_tmp {t : Nat} {r : List RV} {G : List AV → Prop} : resK s own (.tmp t :: r) G = resK s own r fun l => G (s.get t :: l) := by rfl
theorem resK_cell {ag : Bool} {sz a : Nat} {r : List RV} {G : List AV → Prop} : resK s own (.cell ag sz a :: r) G = cellsAt own (s.get a) sz fun cs => resK s own r fun l => G (mk ag cs :: l) := by rfl
theorem resV_one {v : AV} : resV [v] = v := by rfl
theorem resV_two {v u : AV} : resV [v, u] = .tup [v, u] := by rfl
theorem resV_three {v u x : AV} : resV [v, u, x] = .tup [v, u, x] := by rfl
theorem resV_nil : resV [] = .tup [] := by rfl
end

theorem leaves_none {own : Own} {x : AV} {y : AV} (h : y = x) : Leaves own (fun o => Res.val y = .val x ∧ o = []) := ⟨[], List.nil_sublist _, by rw [h], rfl⟩
end Go.Aw
