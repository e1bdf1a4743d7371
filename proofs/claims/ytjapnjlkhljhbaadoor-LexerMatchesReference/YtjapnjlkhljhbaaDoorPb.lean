/- For every argument, estoppellaw06.LexerMatchesReference returns true and leaves its arguments as they were, where the listed package variables hold what the program's text lays into them. (Part 2 of what its proof rests on.) -/
import Derived.OrdersIn
import Derived.RecoverIn
import Derived.Test.YtjapnjlkhljhbaaDoorPa
set_option linter.unusedSimpArgs false
set_option linter.unusedVariables false
set_option linter.deprecated false
namespace Go.Aw
section
variable {F : Fence} {n : Nat} {P : Program} {ops : Array Oper} {Q : Exit → Act → World → Prop} {S : World → Prop} {q : Nat}
def GivesS (P : Program) (ops : Array Oper) (S : World → Prop) (o : Oper) (v : Value) (a : Act) : Prop :=
  (Region.wanted o (yielded ops a.tmps) = true ∧ ∀ w, S w → (execOp a.eval o).run P w = .ok (.value v) w) ∨ (Region.wanted o (yielded ops a.tmps) = false ∧ v = undef)
theorem GivesS.same {o : Oper} {v : Value} {a a' : Act} (h : GivesS P ops S o v a) (he : execOp a'.eval o = execOp a.eval o) (hw : Region.wanted o (yielded ops a'.tmps) = Region.wanted o (yielded ops a.tmps)) : GivesS P ops S o v a' := by
  unfold GivesS
  rw [he, hw]
  exact h
theorem GivesS.op {i : Nat} {o : Oper} {v : Value} {a : Act} (hF : ∀ f, F.fn f) (hi : ops[i]? = some o) (hnd : ∀ c, o.op ≠ .defer c) (h : GivesS P ops S o v a) {K : Act → World → Prop} {w : World} (hS : S w) (hK : K (a.put o.dst v) w) :
    wpOpIn F n P ops Q i K a w := by
  unfold wpOpIn
  simp only [hi]
  rcases h with ⟨hw, hv⟩ | ⟨hw, rfl⟩
  · rw [if_pos hw]
    refine ⟨fun f _ => hF f, ?_⟩
    rw [Oper.semAt_eq _ _ _ hnd, hv w hS]
    exact hK
  · rw [if_neg (by simp [hw])]
    exact ⟨fun f _ => hF f, hK⟩
theorem op_put {j : Nat} {oi oj : Oper} {v : Value} (hF : ∀ f, F.fn f) (hj : ops[j]? = some oj) (hap : oi.apart ops oj = true)
    (hsi : ∀ cs b, oi.op ≠ .select cs b) (hsj : ∀ cs b, oj.op ≠ .select cs b) (hdj : ∀ c, oj.op ≠ .defer c) (hQ : ∀ c a w, Q (.panic c) (a.put oi.dst v) w → Q (.panic c) a w)
    {K : Act → World → Prop} {a : Act} {w : World} (hy : GivesS P ops S oi v a) (h : wpOpIn F n P ops Q j K (a.put oi.dst v) w) :
    wpOpIn F n P ops Q j (fun a' w' => GivesS P ops S oi v a' ∧ K (a'.put oi.dst v) w') a w := by
  obtain ⟨h1, h2, h3⟩ := Oper.apart_spec hap
  have keep : ∀ u, GivesS P ops S oi v (a.put oj.dst u) := fun u => hy.same (execOp_put oi hsi a oj.dst u h3) (wanted_put oi a oj.dst u h3)
  have next : ∀ u w', K ((a.put oi.dst v).put oj.dst u) w' → GivesS P ops S oi v (a.put oj.dst u) ∧ K ((a.put oj.dst u).put oi.dst v) w' := fun u w' hK =>
    ⟨keep u, by rw [← Act.put_comm a v u h2]; exact hK⟩
  unfold wpOpIn at h ⊢
  simp only [hj] at h ⊢
  rw [wanted_put oj a oi.dst v h1] at h
  by_cases hw : Region.wanted oj (yielded ops a.tmps) = true
  · rw [if_pos hw] at h ⊢
    refine ⟨fun f _ => hF f, ?_⟩
    have h := h.2
    rw [Oper.semAt_eq _ _ _ hdj, execOp_put oj hsj a oi.dst v h1] at h
    rw [Oper.semAt_eq _ _ _ hdj]
    cases hr : (execOp a.eval oj).run P w with
    | ok x w' =>
      rw [hr] at h
      cases x with
      | value u => exact next u _ h
      | skip => exact next _ _ h
      | defer d =>
        refine ⟨hy.same ?_ ?_, ?_⟩
        · exact execOp_put oi hsi { a with defers := d :: a.defers } oj.dst undef h3
        · exact wanted_put oi { a with defers := d :: a.defers } oj.dst undef h3
        · rw [← Act.put_comm _ v undef h2, ← Act.put_defers]
          exact h
      | enter f args =>
        refine ⟨h.1, h.2.mono fun e w'' he => ?_⟩
        cases e with
        | returned u => exact next u _ he
        | panicked c => exact hQ _ _ _ he
        | outgrown => exact he
      | row row args => exact ⟨h.1, h.2.mono fun u w'' he => next u _ he⟩
      | round l f tmps assign body =>
        refine ⟨h.1, h.2.mono fun e w'' he => ?_⟩
        cases e with
        | returned u => exact next u _ he
        | panicked c => exact hQ _ _ _ he
        | outgrown => exact he
      | _ => exact h.elim
    | halt x w' =>
      rw [hr] at h
      cases x with
      | panic u => exact hQ _ _ _ h
      | _ => exact h.elim
  · rw [if_neg hw] at h ⊢
    exact ⟨fun f _ => hF f, next _ _ h.2⟩
def anyT (F : Fence) (n : Nat) (P : Program) (ops : Array Oper) (Q : Exit → Act → World → Prop) (q : Nat) (S : World → Prop) : Nat → Array Bool → Act → World → Prop
  | 0, listed, a, w => Region.ready .any ops listed = [] ∧ Q .normal a w
  | fuel + 1, listed, a, w => (Region.ready .any ops listed = [] → Q .normal a w) ∧
    ∀ i ∈ Region.ready .any ops listed, wpOpIn F n P ops Q i (fun a' w' => (i ≠ q → S w') ∧ anyT F n P ops Q q S fuel (listed.setIfInBounds i true) a' w') a w
theorem anyT_mono {S' : World → Prop} (hS : ∀ w, S w → S' w) : ∀ (fuel : Nat) (listed : Array Bool) (a : Act) (w : World), anyT F n P ops Q q S fuel listed a w → anyT F n P ops Q q S' fuel listed a w
  | 0, _, _, _, h => h
  | fuel + 1, _, _, _, h => ⟨h.1, fun i hi => wpOpIn_mono (fun a w h2 => ⟨fun hne => hS w (h2.1 hne), anyT_mono hS fuel _ a w h2.2⟩) (h.2 i hi)⟩
theorem any_of_T : ∀ (fuel : Nat) (listed : Array Bool) (a : Act) (w : World), anyT F n P ops Q q S fuel listed a w → wpAnyIn F n P .any ops Q fuel listed a w
  | 0, _, _, _, h => h
  | fuel + 1, _, _, _, h => ⟨h.1, fun i hi => wpOpIn_mono (fun a w h2 => any_of_T fuel _ a w h2.2) (h.2 i hi)⟩
def Closed (ops : Array Oper) (listed : Array Bool) : Prop := listed.size = ops.size ∧ ∀ (k : Nat) (o : Oper), ops[k]? = some o → listed.getD k false = true → ∀ e ∈ o.after, Region.binds .any e = true → listed.getD e.on false = true
theorem Closed.set {listed : Array Bool} (h : Closed ops listed) {j : Nat} (hj : j ∈ Region.ready .any ops listed) : Closed ops (listed.setIfInBounds j true) := by
  obtain ⟨_, oj, hoj, hall⟩ := mem_ready.1 hj
  refine ⟨by simp [h.1], fun k o ho hk e he hb => ?_⟩
  by_cases hjk : j = k
  · subst hjk
    rw [hoj] at ho
    cases ho
    exact getD_set_true (hall e he hb)
  · rw [getD_set_ne false hjk] at hk
    exact getD_set_true (h.2 k o ho hk e he hb)
theorem sink_last {listed : Array Bool} (hc : Closed ops listed) (hs : oneSink ops q = true) (hq : q ∈ Region.ready .any ops listed) : ∀ i, i < ops.size → i ≠ q → listed.getD i false = true := by
  obtain ⟨_, oq, hoq, hall⟩ := mem_ready.1 hq
  have key : ∀ m i, ops.size - i = m → i < ops.size → i ≠ q → listed.getD i false = true := by
    intro m
    induction m using Nat.strongRecOn with
    | _ m ih =>
      intro i hm hi hne
      have h1 := List.all_eq_true.1 hs i (List.mem_range.2 hi)
      simp only [Bool.or_eq_true, beq_iff_eq, hne, false_or, List.any_eq_true, List.mem_range, Bool.and_eq_true, decide_eq_true_eq] at h1
      obtain ⟨j, hj, hij, ho⟩ := h1
      cases hoj : ops[j]? with
      | none => simp [hoj] at ho
      | some oj =>
        simp only [hoj, Option.any_some] at ho
        obtain ⟨e, he, hb⟩ := Array.any_eq_true'.1 ho
        simp only [Bool.and_eq_true, beq_iff_eq] at hb
        obtain ⟨hb1, rfl⟩ := hb
        by_cases hjq : j = q
        · subst hjq
          rw [hoq] at hoj
          cases hoj
          exact hall e he hb1
        · exact hc.2 j oj hoj (ih (ops.size - j) (by omega) j rfl hj hjq) e he hb1
  exact fun i hi hne => key _ i rfl hi hne
theorem anyT_first {i : Nat} {oi : Oper} {v : Value} (hF : ∀ f, F.fn f) (hi : ops[i]? = some oi) (hiq : i ≠ q) (hsk : q = ops.size ∨ oneSink ops q = true) (hsel : ∀ (j : Nat) (o : Oper), ops[j]? = some o → (∀ cs b, o.op ≠ .select cs b) ∧ ∀ c, o.op ≠ .defer c)
    (hQ : ∀ c a w, Q (.panic c) (a.put oi.dst v) w → Q (.panic c) a w) :
    ∀ (fuel : Nat) (listed : Array Bool) (a : Act) (w : World), Closed ops listed →
      (∀ j oj, ops[j]? = some oj → j ≠ i → listed.getD j true = false → (∀ e ∈ oj.after, Region.binds .any e = true → e.on ≠ i) → oi.apart ops oj = true) →
      i ∈ Region.ready .any ops listed → GivesS P ops S oi v a → S w →
      anyT F n P ops Q q S fuel (listed.setIfInBounds i true) (a.put oi.dst v) w → anyT F n P ops Q q S (fuel + 1) listed a w := by
  intro fuel
  induction fuel with
  | zero =>
    intro listed a w _ _ hr hy hS H
    refine ⟨fun h => (by rw [h] at hr; cases hr), fun j hj => ?_⟩
    by_cases hji : j = i
    · rw [hji]
      exact hy.op hF hi (hsel i oi hi).2 hS ⟨fun _ => hS, H⟩
    · have := ready_mono hj hji
      rw [H.1] at this
      cases this
  | succ fuel ih =>
    intro listed a w hcl hfree hr hy hS H
    refine ⟨fun h => (by rw [h] at hr; cases hr), fun j hj => ?_⟩
    by_cases hji : j = i
    · rw [hji]
      exact hy.op hF hi (hsel i oi hi).2 hS ⟨fun _ => hS, H⟩
    · have hjq : j ≠ q := fun he => by
        subst he
        have hlt : i < ops.size := (Array.getElem?_eq_some_iff.1 hi).1
        have hsk : oneSink ops j = true := hsk.resolve_left (fun h => by
          obtain ⟨_, oj, hoj, _⟩ := mem_ready.1 hj
          have := (Array.getElem?_eq_some_iff.1 hoj).1
          omega)
        have h1 := sink_last hcl hsk hj i hlt (Ne.symm hji)
        have h0 := (mem_ready.1 hr).1
        have hlt' : i < listed.size := by rw [hcl.1]; exact hlt
        simp [hlt'] at h0 h1
        rw [h0] at h1
        cases h1
      have h1 := H.2 j (ready_mono hj hji)
      obtain ⟨hjun, oj, hoj, hall⟩ := mem_ready.1 hj
      have hnot : ∀ e ∈ oj.after, Region.binds .any e = true → e.on ≠ i := fun e he hb heq => by
        have h1 := hall e he hb
        have h0 := (mem_ready.1 hr).1
        rw [heq] at h1
        rcases Nat.lt_or_ge i listed.size with h' | h'
        · simp [h'] at h0 h1; rw [h0] at h1; cases h1
        · simp [Array.getElem?_eq_none h'] at h1
      have h2 := op_put hF hoj (hfree j oj hoj hji hjun hnot) (hsel i oi hi).1 (hsel j oj hoj).1 (hsel j oj hoj).2 hQ hy h1
      have hfree' : ∀ k ok, ops[k]? = some ok → k ≠ i → (listed.setIfInBounds j true).getD k true = false → (∀ e ∈ ok.after, Region.binds .any e = true → e.on ≠ i) → oi.apart ops ok = true := fun k ok hk hki hun hno => by
        refine hfree k ok hk hki ?_ hno
        by_cases hjk : j = k
        · subst hjk; exact hjun
        · rw [getD_set_ne true hjk] at hun; exact hun
      refine wpOpIn_mono (fun a' w' h3 => ⟨fun _ => h3.2.1 hjq, ih (listed.setIfInBounds j true) a' w' (hcl.set hj) hfree' (ready_mono hr (Ne.symm hji)) h3.1 (h3.2.1 hjq) ?_⟩) h2
      rw [Array.setIfInBounds_comm _ _ hji]
      exact h3.2.2
end
def Cx.hide (X : Cx) (A : Own) : Cx := { X with fr := fun b => X.fr b ∨ A.has b }
theorem hide_P {X : Cx} {A : Own} : (X.hide A).P = X.P := rfl
theorem has_append {A B : Own} {b : Nat} : Own.has (A ++ B) b ↔ A.has b ∨ B.has b := by
  unfold Own.has
  rw [List.map_append, List.mem_append]
def runT (X : Cx) (K : Slots → Own → Prop) (A : Own) : DT → Slots → Own → Prop
  | .done, s, B => K s (A ++ B)
  | .stop, _, _ => True
  | .pur o r, s, B => guardP o.g s (o.op.step s A (fun x => runT X K A r (putS o.d x s) B)) (runT X K A r (putS o.d (.tup []) s) B)
  | .alt true o _ more, s, B => guardP o.g s (opA X (fun _ _ _ => False) o.d o.op s (A ++ B) K) (K (putS o.d (.tup []) s) (A ++ B)) ∧ runT X K A more s B
  | .alt false o r more, s, B => guardP o.g s
      (if o.op.isPure then o.op.step s (A ++ B) (fun x => runT X K A r (putS o.d x s) B)
       else opA (X.hide A) (fun _ _ _ => False) o.d o.op s B (runT X K A r))
      (runT X K A r (putS o.d (.tup []) s) B) ∧ runT X K A more s B
inductive Alts (P : Program) (n : Nat) (ops : Array Oper) (q fuel : Nat) (listed : Array Bool) : List Nat → DT → Prop where
  | nil : Alts P n ops q fuel listed [] .stop
  | cons (i : Nat) (l : List Nat) (o : Oper) (ao : AO) (t m : DT) (hi : ops[i]? = some o) (hc : compO P n ops o = some ao) (ht : orders P n ops q fuel (listed.setIfInBounds i true) = some t) (h : Alts P n ops q fuel listed l m) :
      Alts P n ops q fuel listed (i :: l) (.alt (i == q) ao t m)
theorem alts_of {P : Program} {n : Nat} {ops : Array Oper} {q fuel : Nat} {listed : Array Bool} : ∀ (l : List Nat) (t : DT), l.foldr (fun i acc => (ops[i]?).bind fun o => (compO P n ops o).bind fun ao => (orders P n ops q fuel (listed.setIfInBounds i true)).bind fun l => acc.map fun m => .alt (i == q) ao l m) (some .stop) = some t →
    Alts P n ops q fuel listed l t
  | [], t, h => by
    simp only [List.foldr_nil, Option.some.injEq] at h
    subst h
    exact .nil
  | i :: l, t, h => by
    simp only [List.foldr_cons, Option.bind_eq_some_iff, Option.map_eq_some_iff] at h
    obtain ⟨o, hi, ao, hc, t', ht, m, hm, rfl⟩ := h
    exact .cons i l o ao t' m hi hc ht (alts_of l m hm)
section
variable {X : Cx} {s : Slots} {A B own : Own} {a : Act} {w : World}
theorem fo_hide {b : Nat} : Fo (X.hide B).fr A b ↔ Fo X.fr (A ++ B) b := by
  unfold Fo
  rw [has_append]
  constructor
  · rintro ((h | h) | h)
    · exact .inl h
    · exact .inr (.inr h)
    · exact .inr (.inl h)
  · rintro (h | h | h)
    · exact .inl (.inl h)
    · exact .inr h
    · exact .inl (.inr h)
theorem Rep.swap (R : Rep X s (A ++ B) a w) : Rep X s (B ++ A) a w :=
  R.reown _ (fun e he => ⟨e, List.mem_append.2 ((List.mem_append.1 he).symm), rfl, ObLe.refl _⟩) (((List.perm_append_comm (l₁ := A) (l₂ := B)).map _).nodup_iff.1 R.ok.nodup)
theorem Rep.hide (R : Rep X s (A ++ B) a w) : Rep (X.hide B) s A a w := by
  have hl : ∀ b, A.has b → (A ++ B).has b := fun b h => has_append.2 (.inl h)
  have hd := R.ok.nodup
  rw [List.map_append] at hd
  obtain ⟨h1, h2, h3⟩ := List.nodup_append.1 hd
  refine ⟨fun t => (R.tm t).mono (Grow.refl _ _) (fun b _ h => fo_hide.1 h), ⟨fun e he => ?_, h1, fun b hb => ?_, fun b hb => ?_⟩, fun b hb => R.new b (hl b hb), R.size, ?_, ?_⟩
  · exact (R.ok.holds e (List.mem_append_left _ he)).mono (Grow.refl (fun _ => False) w) (fun _ f => f.elim) (fun f => f) (fun b _ h => fo_hide.1 h)
  · rintro (h | h)
    · exact R.ok.apart b (hl b hb) h
    · exact h3 b hb b h rfl
  · rcases hb with hb | hb
    · exact R.ok.fr b hb
    · exact R.ok.lt (X := X) (has_append.2 (.inr hb))
  · obtain ⟨e0, bs, e1, e2, e3⟩ := R.defs
    refine ⟨e0, bs, e1, e2, fun b hb => ?_⟩
    obtain ⟨e4, e5, e6, e7⟩ := e3 b hb
    exact ⟨fun h => e4 (hl b h), fun h => h.elim e5 (fun h => e4 (has_append.2 (.inr h))), e6, e7⟩
  · exact R.kept
def Cx.now (X : Cx) (own : Own) (a : Act) (w : World) : Cx := { X with own0 := own.has, w0 := w, defs := a.defers }
theorem Rep.now (R : Rep X s own a w) : Rep (X.now own a w) s own a w :=
  ⟨R.tm, R.ok, fun _ h => .inl h, R.size, ⟨fun _ => rfl, [], rfl, List.nodup_nil, by simp⟩, Grow.refl _ _⟩
theorem Rep.back {s' : Slots} {B' : Own} {a' : Act} {w' : World} (R : Rep X s (A ++ B) a w) (R' : Rep ((X.hide A).now B a w) s' B' a' w') : Rep X s' (A ++ B') a' w' := by
  have hg : Grow B.has w w' := R'.kept
  have hnew : ∀ b, B'.has b → B.has b ∨ w.heap.size ≤ b := R'.new
  have hgo : Grow (A ++ B).has w w' := hg.mono fun b _ h => has_append.2 (.inr h)
  have hd := R.ok.nodup
  rw [List.map_append] at hd
  obtain ⟨h1, h2, h3⟩ := List.nodup_append.1 hd
  have hF : ∀ b, Fo X.fr (A ++ B') b → Fo (X.hide A).fr B' b := fun b h => by
    rcases h with h | h
    · exact .inl (.inl h)
    · rcases has_append.1 h with h | h
      · exact .inl (.inr h)
      · exact .inr h
  refine ⟨fun t => (R'.tm t).mono (Grow.refl _ _) (fun b _ h => hF b h), ⟨fun e he => ?_, ?_, fun b hb => ?_, fun b hb => Nat.lt_of_lt_of_le (R.ok.fr b hb) hg.sz⟩, fun b hb => ?_, R'.size, ?_, ?_⟩
  · rcases List.mem_append.1 he with he | he
    · have hA : A.has e.2.1 := List.mem_map.2 ⟨e, he, rfl⟩
      refine (R.ok.holds e (List.mem_append_left _ he)).mono hg (fun b hb => .inr (has_append.2 (.inr hb))) (fun hb => h3 _ hA _ hb rfl) (fun b hb hfo => ?_)
      rcases hfo with h | h
      · exact .inl h
      · rcases has_append.1 h with h | h
        · exact .inr (has_append.2 (.inl h))
        · rcases hnew b h with h | h
          · exact .inr (has_append.2 (.inr h))
          · omega
    · exact (R'.ok.holds e he).mono (Grow.refl (fun _ => False) w') (fun _ f => f.elim) (fun f => f) (fun b _ h => hF b h)
  · rw [List.map_append]
    exact List.nodup_append.2 ⟨h1, R'.ok.nodup, fun x hx y hy hxy => by subst hxy; exact R'.ok.apart x hy (.inr hx)⟩
  · rcases has_append.1 hb with hb | hb
    · exact R.ok.apart b (has_append.2 (.inl hb))
    · exact fun h => R'.ok.apart b hb (.inl h)
  · rcases has_append.1 hb with hb | hb
    · exact R.new b (has_append.2 (.inl hb))
    · rcases hnew b hb with h | h
      · exact R.new b (has_append.2 (.inr h))
      · exact .inr (Nat.le_trans R.kept.sz h)
  · obtain ⟨e0, bs, e1, e2, e3⟩ := R.defs
    obtain ⟨f0, cs, f1, f2, f3⟩ := R'.defs
    refine ⟨fun h => (f0 h).trans (e0 h), cs ++ bs, by rw [f1]; show _ ++ a.defers = _; rw [e1]; simp, ?_, fun b hb => ?_⟩
    · refine List.nodup_append.2 ⟨f2, e2, fun x hx y hy hxy => ?_⟩
      subst hxy
      have := (Array.getElem?_eq_some_iff.1 (e3 x hy).2.2.2).1
      have h := (f3 x hx).2.2.1
      exact absurd this (Nat.not_lt.2 h)
    · rcases List.mem_append.1 hb with hb | hb
      · obtain ⟨e4, e5, e6, e7⟩ := f3 b hb
        refine ⟨fun h => ?_, fun h => e5 (.inl h), Nat.le_trans R.kept.sz e6, e7⟩
        rcases has_append.1 h with h | h
        · exact e5 (.inr h)
        · exact e4 h
      · obtain ⟨e4, e5, e6, e7⟩ := e3 b hb
        have hlt := (Array.getElem?_eq_some_iff.1 e7).1
        refine ⟨fun h => ?_, e5, e6, (hg.same b hlt (fun h => e4 (has_append.2 (.inr h)))).trans e7⟩
        rcases has_append.1 h with h | h
        · exact e4 (has_append.2 (.inl h))
        · rcases hnew b h with h | h
          · exact e4 (has_append.2 (.inr h))
          · omega
  · exact kept_trans R.kept hgo (fun b hb => R.new b hb)
def Seen (L : List ((Nat → Prop) × World)) (w : World) : Prop := ∀ e, e ∈ L → e.2.heap.size ≤ w.heap.size ∧ Same e.1 e.2 w
theorem seen_step {L : List ((Nat → Prop) × World)} {w w' : World} (h : Seen L w) (hi : ∀ e, e ∈ L → ∀ b, B.has b → b < e.2.heap.size → e.1 b) (hg : Grow B.has w w') : Seen L w' := fun e he =>
  ⟨Nat.le_trans (h e he).1 hg.sz, fun b hb hn => (hg.same b (Nat.lt_of_lt_of_le hb (h e he).1) (fun hB => hn (hi e he b hB hb))).trans ((h e he).2 b hb hn)⟩
def onlyK (X : Cx) (K : Slots → Own → Prop) : Exit → Act → World → Prop
  | .normal, a, w => ∃ s own, K s own ∧ Rep X s own a w
  | _, _, _ => False
theorem pure_op (R : Rep X s own a w) (o : Oper) (op : AOp) (hc : comp X.P o = some op) {K : AV → Prop} (h : op.step s own K) : ∃ v x, K x ∧ Rel (Fo X.fr own) w v x ∧ ∀ w', Same X.fr w w' → (execOp a.eval o).run X.P w' = .ok (.value v) w' := step_sound R o op hc h
theorem ready_none {ops : Array Oper} {listed : Array Bool} (h : ∀ i, i < ops.size → listed.getD i false = true) : Region.ready .any ops listed = [] := by
  cases hr : Region.ready .any ops listed with
  | nil => rfl
  | cons i l =>
    have hm : i ∈ Region.ready .any ops listed := by rw [hr]; exact List.mem_cons_self ..
    obtain ⟨hu, o, ho, _⟩ := mem_ready.1 hm
    have hlt := (Array.getElem?_eq_some_iff.1 ho).1
    have h1 := h i hlt
    rcases Nat.lt_or_ge i listed.size with h' | h'
    · simp [h'] at hu h1; rw [hu] at h1; cases h1
    · simp [Array.getElem?_eq_none h'] at h1
theorem done_T {K : Slots → Own → Prop} {ops : Array Oper} {q : Nat} {S : World → Prop} {P : Program} : ∀ (fuel : Nat) (listed : Array Bool), Region.ready .any ops listed = [] → onlyK X K .normal a w → anyT (wideR X.rd) 0 P ops (onlyK X K) q S fuel listed a w
  | 0, listed, he, h => ⟨he, h⟩
  | fuel + 1, listed, he, h => ⟨fun _ => h, by rw [he]; simp⟩
theorem runT_sound {K : Slots → Own → Prop} (A : Own) (ops : Array Oper) (q : Nat) (hsk : q = ops.size ∨ oneSink ops q = true) (hs : Region.noSelect ops = true) (hnd : ∀ (j : Nat) (o : Oper), ops[j]? = some o → ∀ c, o.op ≠ .defer c) : ∀ (fuel : Nat) (listed : Array Bool) (t : DT) (L : List ((Nat → Prop) × World)) (s : Slots) (B : Own) (a : Act) (w : World),
    orders X.P X.n ops q fuel listed = some t → Closed ops listed → Rep X s (A ++ B) a w → Seen L w → (∀ e, e ∈ L → ∀ b, B.has b → b < e.2.heap.size → e.1 b) → runT X K A t s B →
    anyT (wideR X.rd) 0 X.P ops (onlyK X K) q (Seen L) fuel listed a w := by
  have hsel : ∀ (j : Nat) (o : Oper), ops[j]? = some o → (∀ cs b, o.op ≠ .select cs b) ∧ ∀ c, o.op ≠ .defer c := fun j o ho => ⟨fun cs b => Region.noSelect_spec hs j o cs b ho, hnd j o ho⟩
  intro fuel
  induction fuel with
  | zero =>
    intro listed t L s B a w he hcl R hS hI h
    simp only [orders] at he
    split at he
    · rename_i hr
      cases he
      exact done_T 0 listed hr ⟨s, _, h, R⟩
    · cases he
  | succ fuel ih =>
    intro listed t L s B a w he hcl R hS hI h
    have lateq : ∀ i o ao, i ∈ Region.ready .any ops listed → ops[i]? = some o → compO X.P X.n ops o = some ao → i = q →
        guardP ao.g s (opA X (fun _ _ _ => False) ao.d ao.op s (A ++ B) K) (K (putS ao.d (.tup []) s) (A ++ B)) →
        wpOpIn (wideR X.rd) 0 X.P ops (onlyK X K) i (fun a' w' => (i ≠ q → Seen L w') ∧ anyT (wideR X.rd) 0 X.P ops (onlyK X K) q (Seen L) fuel (listed.setIfInBounds i true) a' w') a w := by
      intro i o ao hir hi hco hiq h
      subst hiq
      obtain ⟨hcp, hd, hdn⟩ := compO_op hco
      have hlt := (Array.getElem?_eq_some_iff.1 hi).1
      have hsk' : oneSink ops i = true := hsk.resolve_left (by omega)
      have hall : ∀ k, k < ops.size → (listed.setIfInBounds i true).getD k false = true := fun k hk => by
        by_cases hki : k = i
        · subst hki
          have : k < listed.size := by rw [hcl.1]; exact hk
          simp [this]
        · exact getD_set_true (sink_last hcl hsk' hir k hk hki)
      have hnone := ready_none hall
      unfold wpOpIn
      simp only [hi]
      rcases guard_sound R ops o X.n ao hco h with ⟨hw, h⟩ | ⟨hw, h⟩
      · rw [if_pos hw]
        rw [hd] at h
        exact op_sound R o hdn ao.op hcp (Q := fun _ _ _ => False) (K := K) h _ _ (fun s' own' a' w' hK hR => ⟨fun hne => (hne rfl).elim, done_T fuel _ hnone ⟨s', own', hK, hR⟩⟩) (fun c a' w' ⟨_, _, h, _⟩ => h.elim)
      · rw [if_neg (by simp [hw])]
        rw [hd] at h
        exact ⟨fun _ _ => trivial, fun hne => (hne rfl).elim, done_T fuel _ hnone ⟨_, _, h, R.put o.dst hdn (rel_undef _ _)⟩⟩
    have late : ∀ i o ao t', i ∈ Region.ready .any ops listed → ops[i]? = some o → compO X.P X.n ops o = some ao → orders X.P X.n ops q fuel (listed.setIfInBounds i true) = some t' →
        guardP ao.g s
          (if ao.op.isPure then ao.op.step s (A ++ B) (fun x => runT X K A t' (putS ao.d x s) B)
           else opA (X.hide A) (fun _ _ _ => False) ao.d ao.op s B (runT X K A t'))
          (runT X K A t' (putS ao.d (.tup []) s) B) →
        wpOpIn (wideR X.rd) 0 X.P ops (onlyK X K) i (fun a' w' => (i ≠ q → Seen L w') ∧ anyT (wideR X.rd) 0 X.P ops (onlyK X K) q (Seen L) fuel (listed.setIfInBounds i true) a' w') a w := by
      intro i o ao t' hir hi hco ht h
      have hcl2 := hcl.set hir
      obtain ⟨hcp, hd, hdn⟩ := compO_op hco
      unfold wpOpIn
      simp only [hi]
      rcases guard_sound R ops o X.n ao hco h with ⟨hw, h⟩ | ⟨hw, h⟩
      · rw [if_pos hw]
        split at h
        · obtain ⟨v, y, hK, hr, hg⟩ := pure_op R o ao.op hcp h
          refine ⟨fun _ _ => trivial, ?_⟩
          rw [Oper.semAt_eq _ _ _ (hnd i o hi), hg w (Same.refl _ w)]
          rw [hd] at hK
          exact ⟨fun _ => hS, ih _ _ L _ B _ _ ht hcl2 (R.put o.dst hdn hr) hS hI hK⟩
        · have R1 := (R.swap.hide).now
          rw [hd] at h
          refine op_sound R1 o hdn ao.op hcp (Q := fun _ _ _ => False) (K := runT X K A t') h _ _ (fun s' B' a' w' hK hR => ?_) (fun c a' w' h => ?_)
          · have hg : Grow B.has w w' := hR.kept
            have hS' := seen_step hS hI hg
            have hnew : ∀ b, B'.has b → B.has b ∨ w.heap.size ≤ b := hR.new
            refine ⟨fun _ => hS', ih _ _ L s' B' a' w' ht hcl2 (R.back hR) hS' (fun e he b hb hlt => ?_) hK⟩
            rcases hnew b hb with h | h
            · exact hI e he b h hlt
            · have := (hS e he).1
              omega
          · obtain ⟨_, _, h, _⟩ := h
            exact h.elim
      · rw [if_neg (by simp [hw])]
        rw [hd] at h
        exact ⟨fun _ _ => trivial, fun _ => hS, ih _ _ L _ B _ _ ht hcl2 (R.put o.dst hdn (rel_undef _ _)) hS hI h⟩
    have alts : ∀ l t, Alts X.P X.n ops q fuel listed l t → (∀ i, i ∈ l → i ∈ Region.ready .any ops listed) → runT X K A t s B →
        ∀ i, i ∈ l → wpOpIn (wideR X.rd) 0 X.P ops (onlyK X K) i (fun a' w' => (i ≠ q → Seen L w') ∧ anyT (wideR X.rd) 0 X.P ops (onlyK X K) q (Seen L) fuel (listed.setIfInBounds i true) a' w') a w := by
      intro l t hal
      induction hal with
      | nil => intro _ _ i hi; cases hi
      | cons i l o ao t' m hi hc ht hrest ihl =>
        intro hmem h j hj
        cases hq : (i == q) with
        | true =>
          rw [hq] at h
          simp only [runT] at h
          rcases List.mem_cons.1 hj with rfl | hj
          · exact lateq _ o ao (hmem _ (List.mem_cons_self ..)) hi hc (by simpa using hq) h.1
          · exact ihl (fun k hk => hmem k (List.mem_cons_of_mem _ hk)) h.2 j hj
        | false =>
          rw [hq] at h
          simp only [runT] at h
          rcases List.mem_cons.1 hj with rfl | hj
          · exact late _ o ao t' (hmem _ (List.mem_cons_self ..)) hi hc ht h.1
          · exact ihl (fun k hk => hmem k (List.mem_cons_of_mem _ hk)) h.2 j hj
    simp only [orders] at he
    split at he
    · rename_i hr
      cases he
      exact done_T (fuel + 1) listed hr ⟨s, _, h, R⟩
    · rename_i hne
      split at he
      · rename_i i hf
        simp only [Option.bind_eq_some_iff, Option.map_eq_some_iff] at he
        obtain ⟨o, hi, ao, hc, l', hl', rfl⟩ := he
        split at hf
        · cases hf
        have hmem := List.mem_of_find?_eq_some hf
        have hb := List.find?_some hf
        simp only [hi, Option.bind_some, hc, Option.any_some, Bool.and_eq_true, bne_iff_ne, ne_eq] at hb
        obtain ⟨⟨⟨hfree, hp⟩, hiq⟩, _⟩ := hb
        obtain ⟨hcp, hd, hdn⟩ := compO_op hc
        simp only [runT] at h
        have RA := R.hide
        let D : (Nat → Prop) × World := ((X.hide B).fr, w)
        have hS2 : Seen (D :: L) w := fun e he => by
          rcases List.mem_cons.1 he with rfl | he
          · exact ⟨Nat.le_refl _, Same.refl _ _⟩
          · exact hS e he
        have hI2 : ∀ e, e ∈ D :: L → ∀ b, B.has b → b < e.2.heap.size → e.1 b := fun e he b hb hlt => by
          rcases List.mem_cons.1 he with rfl | he
          · exact .inr hb
          · exact hI e he b hb hlt
        have fin : ∀ v, GivesS X.P ops (Seen (D :: L)) o v a → anyT (wideR X.rd) 0 X.P ops (onlyK X K) q (Seen (D :: L)) fuel (listed.setIfInBounds i true) (a.put o.dst v) w → anyT (wideR X.rd) 0 X.P ops (onlyK X K) q (Seen L) (fuel + 1) listed a w := fun v hv hk =>
          anyT_mono (fun w' h => fun e he => h e (List.mem_cons_of_mem _ he)) _ _ _ _
            (anyT_first (fun _ => trivial) hi hiq hsk hsel (fun _ _ _ h => h) fuel listed a w hcl (Region.free_spec hi hfree) hmem hv hS2 hk)
        rcases guard_sound R ops o X.n ao hc h with ⟨hw, h⟩ | ⟨hw, h⟩
        · obtain ⟨v, x, hK, hr, hg⟩ := pure_op RA o ao.op hcp h
          refine fin v (.inl ⟨hw, fun w' hw' => hg w' ((hw' D (List.mem_cons_self ..)).2)⟩) ?_
          rw [hd] at hK
          exact ih _ _ (D :: L) _ B _ _ hl' (hcl.set hmem) (R.put o.dst hdn (hr.mono (Grow.refl _ _) (fun b _ h => fo_hide.2 h))) hS2 hI2 hK
        · refine fin undef (.inr ⟨hw, rfl⟩) ?_
          rw [hd] at h
          exact ih _ _ (D :: L) _ B _ _ hl' (hcl.set hmem) (R.put o.dst hdn (rel_undef _ _)) hS2 hI2 h
      · have hal := alts_of _ _ he
        exact ⟨fun h0 => (hne h0).elim, alts _ _ hal (fun i hi => hi) h⟩
theorem awp_regD {Q : Post} {t : DT} (A B : Own) (hm : X.P.follows .mixedOrders = true) (hp : own.Perm (A ++ B)) (h : ∀ (K : Slots → Own → Prop), (∀ s own, Q .normal s own → K s own) → runT X K A t s B) : AWP X (.regD t) s own Q := by
  intro c hc a w R
  obtain ⟨id, ops, rfl, ⟨hs, hd⟩, hx⟩ := comp_regD hc
  have R1 : Rep X s (A ++ B) a w := R.reown _ (fun e he => ⟨e, hp.mem_iff.2 he, rfl, ObLe.refl _⟩) ((hp.map _).nodup_iff.1 R.ok.nodup)
  have R2 : Rep X s (A ++ B) a { w with drawn := w.drawn + 1 } := R1.grow ⟨Nat.le_refl _, fun _ _ _ => rfl, fun _ _ h => h, fun _ _ _ => rfl, rfl, rfl, rfl⟩
  have hsk : sinkOf ops = ops.size ∨ oneSink ops (sinkOf ops) = true := by
    unfold sinkOf
    split
    · rename_i h; exact .inr h.2
    · exact .inl rfl
  have hcl : Closed ops (Array.replicate ops.size false) := ⟨by simp, fun k o ho hk => by
    have hlt := (Array.getElem?_eq_some_iff.1 ho).1
    simp [hlt] at hk⟩
  have h3 := runT_sound (K := fun s own => Q .normal s own) A ops (sinkOf ops) hsk hs (noDefer_spec hd) ops.size (Array.replicate ops.size false) t [] s B a _ hx hcl R2 (fun e he => by cases he) (fun e he => by cases he) (h _ (fun _ _ h => h))
  refine wpIn_mono (wpIn_region_any hm (any_of_T _ _ _ _ h3)) ?_
  rintro e a' w' h4
  cases e with
  | normal => exact h4
  | _ => exact h4.elim
end
end Go.Aw
namespace Go.Aw
section
variable {X : Cx} {s : Slots} {own : Own} {Q : Post}
def putAll : List Nat → List AV → Slots → Slots
  | t :: r, x :: xs, s => putAll r xs ((t, x) :: s)
  | _, _, s => s
end
end Go.Aw
namespace Go.Aw
section
variable {X : Cx} {Q : Post} {K : Slots → Own → Prop} {d : Option Nat} {r : List AO} {s : Slots} {own : Own}
def goA (X : Cx) (Q : Post) (K : Slots → Own → Prop) (d : Option Nat) (r : List AO) (s : Slots) (own : Own) (x : AV) : Prop := runA X Q K r (putS d x s) own
theorem goA_some {t : Nat} {x : AV} : goA X Q K (some t) r s own x = runA X Q K r ((t, x) :: s) own := by rfl
theorem goA_none {x : AV} : goA X Q K none r s own x = runA X Q K r s own := by rfl
theorem runA_nil : runA X Q K [] s own = K s own := by rfl
def grdA (X : Cx) (Q : Post) (K : Slots → Own → Prop) (b : Bool) (d : Option Nat) (op : AOp) (r : List AO) (s : Slots) (own : Own) (g : AV) : Prop :=
  match g with
  | .bool b' => if b' = b then runA X Q K (⟨d, none, op⟩ :: r) s own else goA X Q K d r s own (.tup [])
  | .tup [] => goA X Q K d r s own (.tup [])
  | _ => False
theorem runA_guard {t : Nat} {b : Bool} {op : AOp} : runA X Q K (⟨d, some (t, b), op⟩ :: r) s own = grdA X Q K b d op r s own (s.get t) := by
  rfl
theorem grdA_bool {b b' : Bool} {op : AOp} : grdA X Q K b d op r s own (.bool b') = if b' = b then runA X Q K (⟨d, none, op⟩ :: r) s own else goA X Q K d r s own (.tup []) := by rfl
theorem grdA_undef {b : Bool} {op : AOp} : grdA X Q K b d op r s own (.tup []) = goA X Q K d r s own (.tup []) := by rfl
theorem runA_mov {x : Od} : runA X Q K (⟨d, none, .mov x⟩ :: r) s own = goA X Q K d r s own (x.ev s) := by rfl
def pickA (X : Cx) (Q : Post) (K : Slots → Own → Prop) (d : Option Nat) (r : List AO) (s : Slots) (own : Own) (c x y : AV) : Prop :=
  match c with
  | .bool t => goA X Q K d r s own (if t then x else y)
  | _ => False
theorem runA_pick {c x y : Od} : runA X Q K (⟨d, none, .pick c x y⟩ :: r) s own = pickA X Q K d r s own (c.ev s) (x.ev s) (y.ev s) := by rfl
theorem pickA_bool {t : Bool} {x y : AV} : pickA X Q K d r s own (.bool t) x y = goA X Q K d r s own (if t then x else y) := by rfl
def ldA (X : Cx) (Q : Post) (K : Slots → Own → Prop) (d : Option Nat) (r : List AO) (s : Slots) (own : Own) (ag : Bool) (sz : Nat) (v : AV) : Prop := cellsAt own v sz fun cs => goA X Q K d r s own (mk ag cs)
def ldO (X : Cx) (Q : Post) (K : Slots → Own → Prop) (d : Option Nat) (r : List AO) (s : Slots) (own : Own) (ag : Bool) (sz o : Nat) (v : Option Ob) : Prop :=
  match v with
  | some (.cells cs) => o + sz ≤ cs.length ∧ goA X Q K d r s own (mk ag ((cs.drop o).take sz))
  | _ => False
theorem runA_load {ag : Bool} {sz : Nat} {p : Od} : runA X Q K (⟨d, none, .load ag sz p⟩ :: r) s own = ldA X Q K d r s own ag sz (p.ev s) := by rfl
theorem ldA_ptr {ag : Bool} {sz k b o : Nat} : ldA X Q K d r s own ag sz (.ptr k b o) = ldO X Q K d r s own ag sz o (own.find k b) := by
  rfl
theorem ldA_ref {ag : Bool} {sz : Nat} {cs : List AV} : ldA X Q K d r s own ag sz (.ref cs) = (sz ≤ cs.length ∧ goA X Q K d r s own (mk ag (cs.take sz))) := by rfl
theorem ldO_some {ag : Bool} {sz o : Nat} {cs : List AV} : ldO X Q K d r s own ag sz o (some (.cells cs)) = (o + sz ≤ cs.length ∧ goA X Q K d r s own (mk ag ((cs.drop o).take sz))) := by rfl
theorem mk_true {cs : List AV} : mk true cs = .agg cs := by rfl
theorem mk_false {x : AV} {cs : List AV} : mk false (x :: cs) = x := by rfl
def fadA (X : Cx) (Q : Post) (K : Slots → Own → Prop) (d : Option Nat) (r : List AO) (s : Slots) (own : Own) (off : Nat) (v : AV) : Prop :=
  match v with
  | .ptr k b o => goA X Q K d r s own (.ptr k b (o + off))
  | .ref cs => goA X Q K d r s own (.ref (cs.drop off))
  | _ => False
theorem runA_fadr {off : Nat} {p : Od} : runA X Q K (⟨d, none, .fadr off p⟩ :: r) s own = fadA X Q K d r s own off (p.ev s) := by
  rfl
theorem fadA_ptr {off k b o : Nat} : fadA X Q K d r s own off (.ptr k b o) = goA X Q K d r s own (.ptr k b (o + off)) := by rfl
theorem fadA_ref {off : Nat} {cs : List AV} : fadA X Q K d r s own off (.ref cs) = goA X Q K d r s own (.ref (cs.drop off)) := by rfl
def iadA (X : Cx) (Q : Post) (K : Slots → Own → Prop) (d : Option Nat) (r : List AO) (s : Slots) (own : Own) (sz : Nat) (v i : AV) : Prop :=
  match v, i with
  | .sl xs, .int _ n => 0 ≤ n ∧ n < xs.length ∧ (xs.getD n.toNat .any).cells.length = sz ∧ goA X Q K d r s own (.ref (xs.getD n.toNat .any).cells)
  | .row k b o m _, .int _ n => 0 ≤ n ∧ n < m ∧ goA X Q K d r s own (.ptr k b (o + n.toNat * sz))
  | _, _ => False
theorem runA_iadr {sz : Nat} {p i : Od} : runA X Q K (⟨d, none, .iadr sz p i⟩ :: r) s own = iadA X Q K d r s own sz (p.ev s) (i.ev s) := by
  rfl
theorem iadA_sl {sz : Nat} {xs : List AV} {k : IntKind} {n : Int} : iadA X Q K d r s own sz (.sl xs) (.int k n) = (0 ≤ n ∧ n < xs.length ∧ (xs.getD n.toNat .any).cells.length = sz ∧ goA X Q K d r s own (.ref (xs.getD n.toNat .any).cells)) := by rfl
theorem iadA_row {sz k b o m z : Nat} {kk : IntKind} {n : Int} : iadA X Q K d r s own sz (.row k b o m z) (.int kk n) = (0 ≤ n ∧ n < m ∧ goA X Q K d r s own (.ptr k b (o + n.toNat * sz))) := by rfl
def iaaA (X : Cx) (Q : Post) (K : Slots → Own → Prop) (d : Option Nat) (r : List AO) (s : Slots) (own : Own) (sz m : Nat) (v i : AV) : Prop :=
  match v, i with
  | .ptr k b o, .int _ n => 0 ≤ n ∧ n < m ∧ goA X Q K d r s own (.ptr k b (o + n.toNat * sz))
  | .ref cs, .int _ n => 0 ≤ n ∧ n < m ∧ goA X Q K d r s own (.ref (cs.drop (n.toNat * sz)))
  | _, _ => False
theorem runA_iadA {sz m : Nat} {p i : Od} : runA X Q K (⟨d, none, .iadA sz m p i⟩ :: r) s own = iaaA X Q K d r s own sz m (p.ev s) (i.ev s) := by
  rfl
theorem iaaA_ptr {sz m k b o : Nat} {kk : IntKind} {n : Int} : iaaA X Q K d r s own sz m (.ptr k b o) (.int kk n) = (0 ≤ n ∧ n < m ∧ goA X Q K d r s own (.ptr k b (o + n.toNat * sz))) := by rfl
theorem iaaA_ref {sz m : Nat} {cs : List AV} {kk : IntKind} {n : Int} : iaaA X Q K d r s own sz m (.ref cs) (.int kk n) = (0 ≤ n ∧ n < m ∧ goA X Q K d r s own (.ref (cs.drop (n.toNat * sz)))) := by rfl
def fldA (X : Cx) (Q : Post) (K : Slots → Own → Prop) (d : Option Nat) (r : List AO) (s : Slots) (own : Own) (ag : Bool) (off sz : Nat) (v : AV) : Prop :=
  match v with
  | .agg cs => off + sz ≤ cs.length ∧ goA X Q K d r s own (mk ag ((cs.drop off).take sz))
  | _ => False
theorem runA_fld {ag : Bool} {off sz : Nat} {p : Od} : runA X Q K (⟨d, none, .fld ag off sz p⟩ :: r) s own = fldA X Q K d r s own ag off sz (p.ev s) := by
  rfl
theorem fldA_agg {ag : Bool} {off sz : Nat} {cs : List AV} : fldA X Q K d r s own ag off sz (.agg cs) = (off + sz ≤ cs.length ∧ goA X Q K d r s own (mk ag ((cs.drop off).take sz))) := by rfl
def evP (s : Slots) (ps : List (Nat × Nat × Od)) : List (Nat × Nat × AV) :=
  match ps with
  | [] => []
  | p :: r => (p.1, p.2.1, p.2.2.ev s) :: evP s r
theorem evP_eq (s : Slots) (ps : List (Nat × Nat × Od)) : evP s ps = ps.map fun p => (p.1, p.2.1, p.2.2.ev s) := by
  induction ps with
  | nil => rfl
  | cons p r ih => simp [evP, ih]
theorem evP_nil : evP s [] = [] := by rfl
theorem evP_cons {a b : Nat} {x : Od} {l : List (Nat × Nat × Od)} : evP s ((a, b, x) :: l) = (a, b, x.ev s) :: evP s l := by rfl
def evL (s : Slots) (ps : List Od) : List AV :=
  match ps with
  | [] => []
  | p :: r => p.ev s :: evL s r
theorem evL_eq (s : Slots) (ps : List Od) : evL s ps = ps.map (·.ev s) := by
  induction ps with
  | nil => rfl
  | cons p r ih => simp [evL, ih]
theorem evL_nil : evL s [] = [] := by rfl
theorem evL_cons {x : Od} {l : List Od} : evL s (x :: l) = x.ev s :: evL s l := by rfl
theorem fillA_nil {zs : List AV} : fillA zs [] = some zs := by rfl
theorem fillA_cint {zs : List AV} {off sz : Nat} {k : IntKind} {n : Int} {l : List (Nat × Nat × AV)} : fillA zs ((off, sz, (.int k n)) :: l) = if (AV.cells (.int k n)).length = sz ∧ off + sz ≤ zs.length ∧ (AV.stor (.int k n)) = true then fillA (zs.take off ++ (AV.cells (.int k n)) ++ zs.drop (off + sz)) l else none := by rfl
theorem fillA_cbool {zs : List AV} {off sz : Nat} {b : Bool} {l : List (Nat × Nat × AV)} : fillA zs ((off, sz, (.bool b)) :: l) = if (AV.cells (.bool b)).length = sz ∧ off + sz ≤ zs.length ∧ (AV.stor (.bool b)) = true then fillA (zs.take off ++ (AV.cells (.bool b)) ++ zs.drop (off + sz)) l else none := by rfl
theorem fillA_cstr {zs : List AV} {off sz : Nat} {t : List UInt8} {l : List (Nat × Nat × AV)} : fillA zs ((off, sz, (.str t)) :: l) = if (AV.cells (.str t)).length = sz ∧ off + sz ≤ zs.length ∧ (AV.stor (.str t)) = true then fillA (zs.take off ++ (AV.cells (.str t)) ++ zs.drop (off + sz)) l else none := by rfl
theorem fillA_cnil {zs : List AV} {off sz : Nat}  {l : List (Nat × Nat × AV)} : fillA zs ((off, sz, .nil) :: l) = if (AV.cells .nil).length = sz ∧ off + sz ≤ zs.length ∧ (AV.stor .nil) = true then fillA (zs.take off ++ (AV.cells .nil) ++ zs.drop (off + sz)) l else none := by rfl
theorem fillA_csl {zs : List AV} {off sz : Nat} {t : List AV} {l : List (Nat × Nat × AV)} : fillA zs ((off, sz, (.sl t)) :: l) = if (AV.cells (.sl t)).length = sz ∧ off + sz ≤ zs.length ∧ (AV.stor (.sl t)) = true then fillA (zs.take off ++ (AV.cells (.sl t)) ++ zs.drop (off + sz)) l else none := by rfl
theorem fillA_cagg {zs : List AV} {off sz : Nat} {t : List AV} {l : List (Nat × Nat × AV)} : fillA zs ((off, sz, (.agg t)) :: l) = if (AV.cells (.agg t)).length = sz ∧ off + sz ≤ zs.length ∧ (AV.stor (.agg t)) = true then fillA (zs.take off ++ (AV.cells (.agg t)) ++ zs.drop (off + sz)) l else none := by rfl
theorem fillA_crow {zs : List AV} {off sz : Nat} {k b o n z : Nat} {l : List (Nat × Nat × AV)} : fillA zs ((off, sz, (.row k b o n z)) :: l) = if (AV.cells (.row k b o n z)).length = sz ∧ off + sz ≤ zs.length ∧ (AV.stor (.row k b o n z)) = true then fillA (zs.take off ++ (AV.cells (.row k b o n z)) ++ zs.drop (off + sz)) l else none := by rfl
theorem fillA_cptr {zs : List AV} {off sz : Nat} {k b o : Nat} {l : List (Nat × Nat × AV)} : fillA zs ((off, sz, (.ptr k b o)) :: l) = if (AV.cells (.ptr k b o)).length = sz ∧ off + sz ≤ zs.length ∧ (AV.stor (.ptr k b o)) = true then fillA (zs.take off ++ (AV.cells (.ptr k b o)) ++ zs.drop (off + sz)) l else none := by rfl
theorem fillA_cfn {zs : List AV} {off sz : Nat} {f : Go.Fn} {p q : List AV} {l : List (Nat × Nat × AV)} : fillA zs ((off, sz, (.fn f p q)) :: l) = if (AV.cells (.fn f p q)).length = sz ∧ off + sz ≤ zs.length ∧ (AV.stor (.fn f p q)) = true then fillA (zs.take off ++ (AV.cells (.fn f p q)) ++ zs.drop (off + sz)) l else none := by rfl
theorem fillA_cref {zs : List AV} {off sz : Nat} {t : List AV} {l : List (Nat × Nat × AV)} : fillA zs ((off, sz, (.ref t)) :: l) = if (AV.cells (.ref t)).length = sz ∧ off + sz ≤ zs.length ∧ (AV.stor (.ref t)) = true then fillA (zs.take off ++ (AV.cells (.ref t)) ++ zs.drop (off + sz)) l else none := by rfl
theorem fillA_cmapv {zs : List AV} {off sz : Nat} {k b : Nat} {l : List (Nat × Nat × AV)} : fillA zs ((off, sz, (.mapv k b)) :: l) = if (AV.cells (.mapv k b)).length = sz ∧ off + sz ≤ zs.length ∧ (AV.stor (.mapv k b)) = true then fillA (zs.take off ++ (AV.cells (.mapv k b)) ++ zs.drop (off + sz)) l else none := by rfl
theorem fillA_clit {zs : List AV} {off sz : Nat} {v : Value} {l : List (Nat × Nat × AV)} : fillA zs ((off, sz, (.lit v)) :: l) = if (AV.cells (.lit v)).length = sz ∧ off + sz ≤ zs.length ∧ (AV.stor (.lit v)) = true then fillA (zs.take off ++ (AV.cells (.lit v)) ++ zs.drop (off + sz)) l else none := by rfl
def bldA (X : Cx) (Q : Post) (K : Slots → Own → Prop) (d : Option Nat) (r : List AO) (s : Slots) (own : Own) (v : Option (List AV)) : Prop :=
  match v with
  | some cs => goA X Q K d r s own (.agg cs)
  | none => False
theorem runA_bld {zs : List AV} {ps : List (Nat × Nat × Od)} : runA X Q K (⟨d, none, .bld zs ps⟩ :: r) s own = bldA X Q K d r s own (fillA zs (evP s ps)) := by
  rw [evP_eq]
  rfl
theorem bldA_some {cs : List AV} : bldA X Q K d r s own (some cs) = goA X Q K d r s own (.agg cs) := by rfl
def binA (X : Cx) (Q : Post) (K : Slots → Own → Prop) (d : Option Nat) (r : List AO) (s : Slots) (own : Own) (op : BinOp) (x y : AV) : Prop :=
  match x, y with
  | .int k a, .int k' b => k = k' ∧ binI op k a b (goA X Q K d r s own)
  | .str a, .str b => binS op a b (goA X Q K d r s own)
  | _, _ => False
theorem runA_bin {op : BinOp} {x y : Od} : runA X Q K (⟨d, none, .bin op x y⟩ :: r) s own = binA X Q K d r s own op (x.ev s) (y.ev s) := by
  rfl
theorem binA_int {op : BinOp} {k k' : IntKind} {a b : Int} : binA X Q K d r s own op (.int k a) (.int k' b) = (k = k' ∧ binI op k a b (goA X Q K d r s own)) := by rfl
theorem binA_str {op : BinOp} {a b : List UInt8} : binA X Q K d r s own op (.str a) (.str b) = binS op a b (goA X Q K d r s own) := by rfl
theorem binI_add {k : IntKind} {x y : Int} {G : AV → Prop} : binI .add k x y G = G (.int k (k.wrap (x + y))) := by rfl
theorem binI_sub {k : IntKind} {x y : Int} {G : AV → Prop} : binI .sub k x y G = G (.int k (k.wrap (x - y))) := by rfl
theorem binI_mul {k : IntKind} {x y : Int} {G : AV → Prop} : binI .mul k x y G = G (.int k (k.wrap (x * y))) := by rfl
theorem binI_quo {k : IntKind} {x y : Int} {G : AV → Prop} : binI .quo k x y G = (y ≠ 0 ∧ G (.int k (k.wrap (x.tdiv y)))) := by rfl
theorem binI_rem {k : IntKind} {x y : Int} {G : AV → Prop} : binI .rem k x y G = (y ≠ 0 ∧ G (.int k (x.tmod y))) := by rfl
theorem binI_eql {k : IntKind} {x y : Int} {G : AV → Prop} : binI .eql k x y G = G (.bool (decide (x = y))) := by rfl
theorem binI_neq {k : IntKind} {x y : Int} {G : AV → Prop} : binI .neq k x y G = G (.bool (!decide (x = y))) := by rfl
theorem binI_lss {k : IntKind} {x y : Int} {G : AV → Prop} : binI .lss k x y G = G (.bool (decide (x < y))) := by rfl
theorem binI_leq {k : IntKind} {x y : Int} {G : AV → Prop} : binI .leq k x y G = G (.bool (decide (x ≤ y))) := by rfl
theorem binI_gtr {k : IntKind} {x y : Int} {G : AV → Prop} : binI .gtr k x y G = G (.bool (decide (y < x))) := by rfl
theorem binI_geq {k : IntKind} {x y : Int} {G : AV → Prop} : binI .geq k x y G = G (.bool (decide (y ≤ x))) := by rfl
theorem binS_add {x y : List UInt8} {G : AV → Prop} : binS .add x y G = (x.length + y.length ≤ 9223372036854775807 ∧ G (.str (x ++ y))) := by rfl
theorem binS_eql {x y : List UInt8} {G : AV → Prop} : binS .eql x y G = G (.bool (decide (x = y))) := by rfl
theorem binS_neq {x y : List UInt8} {G : AV → Prop} : binS .neq x y G = G (.bool (!decide (x = y))) := by rfl
theorem binS_lss {x y : List UInt8} {G : AV → Prop} : binS .lss x y G = G (.bool (Op.bytesLess x y)) := by rfl
def bibA (X : Cx) (Q : Post) (K : Slots → Own → Prop) (d : Option Nat) (r : List AO) (s : Slots) (own : Own) (op : BinOp) (x y : AV) : Prop :=
  match op, x, y with
  | .eql, .bool a, .bool b => goA X Q K d r s own (.bool (a == b))
  | .neq, .bool a, .bool b => goA X Q K d r s own (.bool (!(a == b)))
  | _, _, _ => False
theorem runA_binB {op : BinOp} {x y : Od} : runA X Q K (⟨d, none, .binB op x y⟩ :: r) s own = bibA X Q K d r s own op (x.ev s) (y.ev s) := by
  rfl
theorem bibA_eql {a b : Bool} : bibA X Q K d r s own .eql (.bool a) (.bool b) = goA X Q K d r s own (.bool (a == b)) := by rfl
theorem bibA_neq {a b : Bool} : bibA X Q K d r s own .neq (.bool a) (.bool b) = goA X Q K d r s own (.bool (!(a == b))) := by rfl
theorem runA_un {op : UnOp} {x : Od} : runA X Q K (⟨d, none, .un op x⟩ :: r) s own = unV op (x.ev s) (goA X Q K d r s own) := by rfl
theorem unV_not {b : Bool} {G : AV → Prop} : unV .not (.bool b) G = G (.bool !b) := by rfl
theorem unV_neg {k : IntKind} {n : Int} {G : AV → Prop} : unV .neg (.int k n) G = G (.int k (k.wrap (0 - n))) := by rfl
def cnvA (X : Cx) (Q : Post) (K : Slots → Own → Prop) (d : Option Nat) (r : List AO) (s : Slots) (own : Own) (k : IntKind) (x : AV) : Prop :=
  match x with
  | .int _ n => goA X Q K d r s own (.int k (k.wrap n))
  | _ => False
theorem runA_conv {k : IntKind} {x : Od} : runA X Q K (⟨d, none, .conv k x⟩ :: r) s own = cnvA X Q K d r s own k (x.ev s) := by
  rfl
theorem cnvA_int {k k' : IntKind} {n : Int} : cnvA X Q K d r s own k (.int k' n) = goA X Q K d r s own (.int k (k.wrap n)) := by rfl
def extA (X : Cx) (Q : Post) (K : Slots → Own → Prop) (d : Option Nat) (r : List AO) (s : Slots) (own : Own) (i : Nat) (x : AV) : Prop :=
  match x with
  | .tup vs => i < vs.length ∧ goA X Q K d r s own (vs.getD i .any)
  | _ => False
theorem runA_ext {i : Nat} {x : Od} : runA X Q K (⟨d, none, .ext i x⟩ :: r) s own = extA X Q K d r s own i (x.ev s) := by
  rfl
theorem extA_0 {x : AV} {l : List AV} : extA X Q K d r s own 0 (.tup (x :: l)) = goA X Q K d r s own x := by simp [extA]
theorem extA_1 {x y : AV} {l : List AV} : extA X Q K d r s own 1 (.tup (x :: y :: l)) = goA X Q K d r s own y := by simp [extA]
theorem extA_2 {x y z : AV} {l : List AV} : extA X Q K d r s own 2 (.tup (x :: y :: z :: l)) = goA X Q K d r s own z := by simp [extA]
theorem extA_3 {x y z u : AV} {l : List AV} : extA X Q K d r s own 3 (.tup (x :: y :: z :: u :: l)) = goA X Q K d r s own u := by simp [extA]
def lenA (X : Cx) (Q : Post) (K : Slots → Own → Prop) (d : Option Nat) (r : List AO) (s : Slots) (own : Own) (x : AV) : Prop :=
  match x with
  | .sl xs => goA X Q K d r s own (.int .i64 xs.length)
  | .row _ _ _ n _ => goA X Q K d r s own (.int .i64 n)
  | .nil => goA X Q K d r s own (.int .i64 0)
  | _ => False
theorem runA_len {x : Od} : runA X Q K (⟨d, none, .len x⟩ :: r) s own = lenA X Q K d r s own (x.ev s) := by
  rfl
theorem lenA_sl {xs : List AV} : lenA X Q K d r s own (.sl xs) = goA X Q K d r s own (.int .i64 xs.length) := by rfl
theorem lenA_row {k b o n z : Nat} : lenA X Q K d r s own (.row k b o n z) = goA X Q K d r s own (.int .i64 n) := by rfl
theorem lenA_nil : lenA X Q K d r s own .nil = goA X Q K d r s own (.int .i64 0) := by rfl
def lnsA (X : Cx) (Q : Post) (K : Slots → Own → Prop) (d : Option Nat) (r : List AO) (s : Slots) (own : Own) (x : AV) : Prop :=
  match x with
  | .str l => goA X Q K d r s own (.int .i64 l.length)
  | _ => False
theorem runA_lenS {x : Od} : runA X Q K (⟨d, none, .lenS x⟩ :: r) s own = lnsA X Q K d r s own (x.ev s) := by
  rfl
theorem lnsA_str {l : List UInt8} : lnsA X Q K d r s own (.str l) = goA X Q K d r s own (.int .i64 l.length) := by rfl
def ixsA (X : Cx) (Q : Post) (K : Slots → Own → Prop) (d : Option Nat) (r : List AO) (s : Slots) (own : Own) (x i : AV) : Prop :=
  match x, i with
  | .str l, .int _ n => 0 ≤ n ∧ n < l.length ∧ goA X Q K d r s own (.int .u8 (l.getD n.toNat 0).toNat)
  | _, _ => False
theorem runA_idxS {x i : Od} : runA X Q K (⟨d, none, .idxS x i⟩ :: r) s own = ixsA X Q K d r s own (x.ev s) (i.ev s) := by
  rfl
theorem ixsA_str {l : List UInt8} {k : IntKind} {n : Int} : ixsA X Q K d r s own (.str l) (.int k n) = (0 ≤ n ∧ n < l.length ∧ goA X Q K d r s own (.int .u8 (l.getD n.toNat 0).toNat)) := by rfl
theorem runA_mkfn {f : Go.Fn} {p q : List Od} : runA X Q K (⟨d, none, .mkfn f p q⟩ :: r) s own = goA X Q K d r s own (.fn f (evL s p) (evL s q)) := by
  rw [evL_eq, evL_eq]
  rfl
def evO (s : Slots) : Option Od → Option AV
  | none => none
  | some x => some (x.ev s)
theorem evO_eq (s : Slots) (x : Option Od) : evO s x = x.map (·.ev s) := by cases x <;> rfl
theorem evO_none : evO s none = none := by rfl
theorem evO_some {x : Od} : evO s (some x) = some (x.ev s) := by rfl
def slcA (X : Cx) (Q : Post) (K : Slots → Own → Prop) (d : Option Nat) (r : List AO) (s : Slots) (own : Own) (sz : Nat) (x : AV) (lo hi : Option AV) : Prop :=
  match x, lo.getD (.int .i64 0), hi with
  | .sl xs, .int _ l, none => (∀ x, x ∈ xs → x.cells.length = sz) ∧ 0 ≤ l ∧ l ≤ xs.length ∧ goA X Q K d r s own (.sl (xs.drop l.toNat))
  | .sl xs, .int _ l, some (.int _ h) => (∀ x, x ∈ xs → x.cells.length = sz) ∧ 0 ≤ l ∧ l ≤ h ∧ h ≤ xs.length ∧ goA X Q K d r s own (.sl ((xs.take h.toNat).drop l.toNat))
  | .row k b o n z, .int _ l, some (.int _ h) => l = 0 ∧ z = sz ∧ 0 ≤ h ∧ h ≤ n ∧ goA X Q K d r s own (.row k b o h.toNat z)
  | _, _, _ => False
theorem runA_slc {sz : Nat} {x : Od} {lo hi : Option Od} : runA X Q K (⟨d, none, .slc sz x lo hi⟩ :: r) s own = slcA X Q K d r s own sz (x.ev s) (evO s lo) (evO s hi) := by
  rw [evO_eq, evO_eq]
  rfl
theorem slcA_to {sz : Nat} {xs : List AV} {k : IntKind} {h : Int} : slcA X Q K d r s own sz (.sl xs) none (some (.int k h)) = ((∀ x, x ∈ xs → x.cells.length = sz) ∧ 0 ≤ h ∧ h ≤ xs.length ∧ goA X Q K d r s own (.sl (xs.take h.toNat))) := by
  simp [slcA]
theorem slcA_from {sz : Nat} {xs : List AV} {k : IntKind} {l : Int} : slcA X Q K d r s own sz (.sl xs) (some (.int k l)) none = ((∀ x, x ∈ xs → x.cells.length = sz) ∧ 0 ≤ l ∧ l ≤ xs.length ∧ goA X Q K d r s own (.sl (xs.drop l.toNat))) := by rfl
theorem slcA_both {sz : Nat} {xs : List AV} {k k' : IntKind} {l h : Int} : slcA X Q K d r s own sz (.sl xs) (some (.int k l)) (some (.int k' h)) = ((∀ x, x ∈ xs → x.cells.length = sz) ∧ 0 ≤ l ∧ l ≤ h ∧ h ≤ xs.length ∧ goA X Q K d r s own (.sl ((xs.take h.toNat).drop l.toNat))) := by rfl
theorem slcA_row {sz k b o n z : Nat} {k' : IntKind} {h : Int} : slcA X Q K d r s own sz (.row k b o n z) none (some (.int k' h)) = (z = sz ∧ 0 ≤ h ∧ h ≤ n ∧ goA X Q K d r s own (.row k b o h.toNat z)) := by
  simp [slcA]
def slsA (X : Cx) (Q : Post) (K : Slots → Own → Prop) (d : Option Nat) (r : List AO) (s : Slots) (own : Own) (x : AV) (lo hi : Option AV) : Prop :=
  match x, lo.getD (.int .i64 0), hi with
  | .str xs, .int _ l, none => 0 ≤ l ∧ l ≤ xs.length ∧ goA X Q K d r s own (.str (xs.drop l.toNat))
  | .str xs, .int _ l, some (.int _ h) => 0 ≤ l ∧ l ≤ h ∧ h ≤ xs.length ∧ goA X Q K d r s own (.str ((xs.take h.toNat).drop l.toNat))
  | _, _, _ => False
theorem runA_slcS {x : Od} {lo hi : Option Od} : runA X Q K (⟨d, none, .slcS x lo hi⟩ :: r) s own = slsA X Q K d r s own (x.ev s) (evO s lo) (evO s hi) := by
  rw [evO_eq, evO_eq]
  rfl
theorem slsA_to {xs : List UInt8} {k : IntKind} {h : Int} : slsA X Q K d r s own (.str xs) none (some (.int k h)) = (0 ≤ h ∧ h ≤ xs.length ∧ goA X Q K d r s own (.str (xs.take h.toNat))) := by
  simp [slsA]
theorem slsA_from {xs : List UInt8} {k : IntKind} {l : Int} : slsA X Q K d r s own (.str xs) (some (.int k l)) none = (0 ≤ l ∧ l ≤ xs.length ∧ goA X Q K d r s own (.str (xs.drop l.toNat))) := by rfl
theorem slsA_both {xs : List UInt8} {k k' : IntKind} {l h : Int} : slsA X Q K d r s own (.str xs) (some (.int k l)) (some (.int k' h)) = (0 ≤ l ∧ l ≤ h ∧ h ≤ xs.length ∧ goA X Q K d r s own (.str ((xs.take h.toNat).drop l.toNat))) := by rfl
def nlcA (X : Cx) (Q : Post) (K : Slots → Own → Prop) (d : Option Nat) (r : List AO) (s : Slots) (own : Own) (v : AV) : Prop :=
  match v with
  | .ptr k b o => goA X Q K d r s own (.ptr k b o)
  | .ref cs => goA X Q K d r s own (.ref cs)
  | _ => False
theorem runA_nilc {x : Od} : runA X Q K (⟨d, none, .nilc x⟩ :: r) s own = nlcA X Q K d r s own (x.ev s) := by rfl
theorem nlcA_ptr {k b o : Nat} : nlcA X Q K d r s own (.ptr k b o) = goA X Q K d r s own (.ptr k b o) := by rfl
theorem nlcA_ref {cs : List AV} : nlcA X Q K d r s own (.ref cs) = goA X Q K d r s own (.ref cs) := by rfl
def eqsA (X : Cx) (Q : Post) (K : Slots → Own → Prop) (d : Option Nat) (r : List AO) (s : Slots) (own : Own) (neg : Bool) (v : Option Bool) : Prop :=
  match v with
  | some b => goA X Q K d r s own (.bool (if neg then !b else b))
  | none => False
def eqzA (X : Cx) (Q : Post) (K : Slots → Own → Prop) (d : Option Nat) (r : List AO) (s : Slots) (own : Own) (neg : Bool) (ks : List KK) (x y : AV) : Prop :=
  match x, y with
  | .agg xs, .agg ys => eqsA X Q K d r s own neg (eqCells ks xs ys)
  | _, _ => False
theorem runA_eqS {neg : Bool} {ks : List KK} {x y : Od} : runA X Q K (⟨d, none, .eqS neg ks x y⟩ :: r) s own = eqzA X Q K d r s own neg ks (x.ev s) (y.ev s) := by rfl
theorem eqzA_agg {neg : Bool} {ks : List KK} {xs ys : List AV} : eqzA X Q K d r s own neg ks (.agg xs) (.agg ys) = eqsA X Q K d r s own neg (eqCells ks xs ys) := by rfl
theorem eqsA_eq {b : Bool} : eqsA X Q K d r s own false (some b) = goA X Q K d r s own (.bool b) := by rfl
theorem eqsA_ne {b : Bool} : eqsA X Q K d r s own true (some b) = goA X Q K d r s own (.bool !b) := by rfl
theorem eqC_nil : eqCells [] [] [] = some true := by rfl
def bndO (x y : Option Bool) : Option Bool := x.bind fun b => y.map fun c => b && c
theorem eqC_cons {k : KK} {ks : List KK} {x y : AV} {xs ys : List AV} : eqCells (k :: ks) (x :: xs) (y :: ys) = bndO (sameK k x y) (eqCells ks xs ys) := by rfl
theorem bndO_some {b c : Bool} : bndO (some b) (some c) = some (b && c) := by rfl
theorem same_i {k : IntKind} {x y : Int} : sameK .i (.int k x) (.int k y) = some (decide (x = y)) := by simp [sameK]
theorem same_s {x y : List UInt8} : sameK .s (.str x) (.str y) = some (decide (x = y)) := by rfl
theorem same_b {x y : Bool} : sameK .b (.bool x) (.bool y) = some (x == y) := by rfl
def nisA (X : Cx) (Q : Post) (K : Slots → Own → Prop) (d : Option Nat) (r : List AO) (s : Slots) (own : Own) (neg : Bool) (v : AV) : Prop :=
  match v with
  | .nil => goA X Q K d r s own (.bool (!neg))
  | .row _ _ _ _ _ => goA X Q K d r s own (.bool neg)
  | .sl xs => goA X Q K d r s own (.bool neg) ∧ (xs = [] → goA X Q K d r s own (.bool (!neg)))
  | _ => False
theorem runA_nilS {neg : Bool} {x : Od} : runA X Q K (⟨d, none, .nilS neg x⟩ :: r) s own = nisA X Q K d r s own neg (x.ev s) := by rfl
theorem nisA_nil {neg : Bool} : nisA X Q K d r s own neg .nil = goA X Q K d r s own (.bool (!neg)) := by rfl
theorem nisA_row {neg : Bool} {k b o n z : Nat} : nisA X Q K d r s own neg (.row k b o n z) = goA X Q K d r s own (.bool neg) := by rfl
theorem nisA_sl {neg : Bool} {xs : List AV} : nisA X Q K d r s own neg (.sl xs) = (goA X Q K d r s own (.bool neg) ∧ (xs = [] → goA X Q K d r s own (.bool (!neg)))) := by rfl
def mlkR (X : Cx) (Q : Post) (K : Slots → Own → Prop) (d : Option Nat) (r : List AO) (s : Slots) (own : Own) (ok : Bool) (z : AV) (es : List (AV × AV)) (v : Option (Option Nat)) : Prop :=
  match v with
  | some (some j) => goA X Q K d r s own (mres ok (es.getD j (.any, .any)).2 true)
  | some none => goA X Q K d r s own (mres ok z false)
  | none => False
def mlkO (X : Cx) (Q : Post) (K : Slots → Own → Prop) (d : Option Nat) (r : List AO) (s : Slots) (own : Own) (ok : Bool) (kk : KK) (z i : AV) (v : Option Ob) : Prop :=
  match v with
  | some (.map es) => mlkR X Q K d r s own ok z es (mfindI kk i es 0)
  | _ => False
def mlkA (X : Cx) (Q : Post) (K : Slots → Own → Prop) (d : Option Nat) (r : List AO) (s : Slots) (own : Own) (ok : Bool) (kk : KK) (z v i : AV) : Prop :=
  match v with
  | .mapv k b => mlkO X Q K d r s own ok kk z i (own.find k b)
  | _ => False
theorem runA_mlook {ok : Bool} {kk : KK} {z : AV} {x i : Od} : runA X Q K (⟨d, none, .mlook ok kk z x i⟩ :: r) s own = mlkA X Q K d r s own ok kk z (x.ev s) (i.ev s) := by
  rfl
theorem mlkA_mapv {ok : Bool} {kk : KK} {z i : AV} {k b : Nat} : mlkA X Q K d r s own ok kk z (.mapv k b) i = mlkO X Q K d r s own ok kk z i (own.find k b) := by rfl
theorem mlkO_some {ok : Bool} {kk : KK} {z i : AV} {es : List (AV × AV)} : mlkO X Q K d r s own ok kk z i (some (.map es)) = mlkR X Q K d r s own ok z es (mfindI kk i es 0) := by rfl
theorem mres_t {x : AV} {b : Bool} : mres true x b = .tup [x, .bool b] := by rfl
theorem mres_f {x : AV} {b : Bool} : mres false x b = x := by rfl
def mlnO (X : Cx) (Q : Post) (K : Slots → Own → Prop) (d : Option Nat) (r : List AO) (s : Slots) (own : Own) (v : Option Ob) : Prop :=
  match v with
  | some (.map es) => goA X Q K d r s own (.int .i64 es.length)
  | _ => False
def mlnA (X : Cx) (Q : Post) (K : Slots → Own → Prop) (d : Option Nat) (r : List AO) (s : Slots) (own : Own) (v : AV) : Prop :=
  match v with
  | .mapv k b => mlnO X Q K d r s own (own.find k b)
  | _ => False
theorem runA_mlen {x : Od} : runA X Q K (⟨d, none, .mlen x⟩ :: r) s own = mlnA X Q K d r s own (x.ev s) := by
  rfl
theorem mlnA_mapv {k b : Nat} : mlnA X Q K d r s own (.mapv k b) = mlnO X Q K d r s own (own.find k b) := by rfl
theorem mlnO_some {es : List (AV × AV)} : mlnO X Q K d r s own (some (.map es)) = goA X Q K d r s own (.int .i64 es.length) := by rfl
theorem binI_and {k : IntKind} {x y : Int} {G : AV → Prop} : binI .and k x y G = G (.int k (bitI .and k x y)) := by rfl
theorem binI_or {k : IntKind} {x y : Int} {G : AV → Prop} : binI .or k x y G = G (.int k (bitI .or k x y)) := by rfl
theorem binI_xor {k : IntKind} {x y : Int} {G : AV → Prop} : binI .xor k x y G = G (.int k (bitI .xor k x y)) := by rfl
theorem binI_andNot {k : IntKind} {x y : Int} {G : AV → Prop} : binI .andNot k x y G = G (.int k (bitI .andNot k x y)) := by rfl
theorem runA_ifc {t : TypeId} {x : Od} : runA X Q K (⟨d, none, .ifc t x⟩ :: r) s own = goA X Q K d r s own (.ifc t (x.ev s)) := by rfl
def asrA (X : Cx) (Q : Post) (K : Slots → Own → Prop) (d : Option Nat) (r : List AO) (s : Slots) (own : Own) (t : TypeId) (z : AV) (v : AV) : Prop :=
  match v with
  | .ifc t' y => (t' = t → goA X Q K d r s own (.tup [y, .bool true])) ∧ (t' ≠ t → goA X Q K d r s own (.tup [z, .bool false]))
  | .lit .nilIface => goA X Q K d r s own (.tup [z, .bool false])
  | _ => False
theorem runA_asrt {t : TypeId} {z : AV} {x : Od} : runA X Q K (⟨d, none, .asrt t z x⟩ :: r) s own = asrA X Q K d r s own t z (x.ev s) := by rfl
theorem asrA_same {t : TypeId} {z y : AV} : asrA X Q K d r s own t z (.ifc t y) = goA X Q K d r s own (.tup [y, .bool true]) := by simp [asrA]
theorem asrA_nil {t : TypeId} {z : AV} : asrA X Q K d r s own t z (.lit .nilIface) = goA X Q K d r s own (.tup [z, .bool false]) := by rfl
def niiA (X : Cx) (Q : Post) (K : Slots → Own → Prop) (d : Option Nat) (r : List AO) (s : Slots) (own : Own) (neg : Bool) (v : AV) : Prop :=
  match v with
  | .lit .nilIface => goA X Q K d r s own (.bool (!neg))
  | .ifc _ _ => goA X Q K d r s own (.bool neg)
  | _ => False
theorem runA_nilI {neg : Bool} {x : Od} : runA X Q K (⟨d, none, .nilI neg x⟩ :: r) s own = niiA X Q K d r s own neg (x.ev s) := by rfl
theorem niiA_nil {neg : Bool} : niiA X Q K d r s own neg (.lit .nilIface) = goA X Q K d r s own (.bool (!neg)) := by rfl
theorem niiA_ifc {neg : Bool} {t : TypeId} {y : AV} : niiA X Q K d r s own neg (.ifc t y) = goA X Q K d r s own (.bool neg) := by rfl
def s2bA (X : Cx) (Q : Post) (K : Slots → Own → Prop) (d : Option Nat) (r : List AO) (s : Slots) (own : Own) (v : AV) : Prop :=
  match v with
  | .str l => goA X Q K d r s own (.sl (l.map fun c => .int .u8 c.toNat))
  | _ => False
theorem runA_s2b {x : Od} : runA X Q K (⟨d, none, .s2b x⟩ :: r) s own = s2bA X Q K d r s own (x.ev s) := by rfl
def byts (l : List UInt8) : List Int := l.map fun c => (c.toNat : Int)
theorem s2bA_str {l : List UInt8} : s2bA X Q K d r s own (.str l) = goA X Q K d r s own (.sl ((byts l).map (AV.int .u8))) := by
  show goA X Q K d r s own (.sl (l.map fun c => .int .u8 c.toNat)) = _
  rw [byts, List.map_map]
  rfl
def panV (Q : Post) (s : Slots) (own : Own) (t : TypeId) (v : Option Value) : Prop :=
  match v with
  | some u => Q (.panic [{ v := .iface t u, recovered := false }]) s own
  | none => False
def panA (Q : Post) (s : Slots) (own : Own) (v : AV) : Prop :=
  match v with
  | .ifc t y => panV Q s own t (cval y)
  | _ => False
theorem runA_pan {x : Od} : runA X Q K (⟨d, none, .pan x⟩ :: r) s own = panA Q s own (x.ev s) := by rfl
theorem panA_ifc {t : TypeId} {y : AV} : panA Q s own (.ifc t y) = panV Q s own t (cval y) := by rfl
theorem panV_some {t : TypeId} {u : Value} : panV Q s own t (some u) = Q (.panic [{ v := .iface t u, recovered := false }]) s own := by rfl
theorem cval_agg {l : List AV} : cval (.agg l) = (cvals l).map fun l => .agg l.toArray := by rfl
theorem cvals_nil : cvals [] = some [] := by rfl
theorem cvals_int {k : IntKind} {n : Int} {l : List AV} : cvals (.int k n :: l) = (cvals l).map fun l => .int k n :: l := by rfl
theorem cvals_bool {b : Bool} {l : List AV} : cvals (.bool b :: l) = (cvals l).map fun l => .bool b :: l := by rfl
theorem pu_ifc {t : TypeId} {x : Od} : AOp.isPure (.ifc t x) = true := by rfl
theorem pu_asrt {t : TypeId} {z : AV} {x : Od} : AOp.isPure (.asrt t z x) = true := by rfl
theorem pu_nilI {neg : Bool} {x : Od} : AOp.isPure (.nilI neg x) = true := by rfl
theorem pu_s2b {x : Od} : AOp.isPure (.s2b x) = false := by rfl
theorem pu_pan {x : Od} : AOp.isPure (.pan x) = false := by rfl
attribute [go_sem] binI_and binI_or binI_xor binI_andNot runA_ifc runA_asrt asrA_same asrA_nil runA_nilI niiA_nil niiA_ifc runA_s2b s2bA_str runA_pan panA_ifc panV_some cval_agg cvals_nil cvals_int cvals_bool Option.map_some pu_ifc pu_asrt pu_nilI pu_s2b pu_pan
theorem runA_mkmap {t : Nat} : runA X Q K (⟨some t, none, .mkmap⟩ :: r) s own = ∀ b, runA X Q K r ((t, .mapv t b) :: s) ((t, b, .map []) :: own) := by rfl
def mptR (X : Cx) (Q : Post) (K : Slots → Own → Prop) (r : List AO) (s : Slots) (own : Own) (k : Nat) (i v : AV) (es : List (AV × AV)) (q : Option (Option Nat)) : Prop :=
  match q with
  | some none => runA X Q K r s (own.put k (.map (es ++ [(i, v)])))
  | some (some j) => runA X Q K r s (own.put k (.map (es.set j (i, v))))
  | none => False
def mptO (X : Cx) (Q : Post) (K : Slots → Own → Prop) (r : List AO) (s : Slots) (own : Own) (kk : KK) (k : Nat) (i v : AV) (q : Option Ob) : Prop :=
  match q with
  | some (.map es) => mptR X Q K r s own k i v es (mfindI kk i es 0)
  | _ => False
def mptA (X : Cx) (Q : Post) (K : Slots → Own → Prop) (r : List AO) (s : Slots) (own : Own) (kk : KK) (x i v : AV) : Prop :=
  match x with
  | .mapv k b => mptO X Q K r s own kk k i v (own.find k b)
  | _ => False
theorem runA_mput {kk : KK} {x i v : Od} : runA X Q K (⟨none, none, .mput kk x i v⟩ :: r) s own = mptA X Q K r s own kk (x.ev s) (i.ev s) (v.ev s) := by
  rfl
theorem mptA_mapv {kk : KK} {k b : Nat} {i v : AV} : mptA X Q K r s own kk (.mapv k b) i v = mptO X Q K r s own kk k i v (own.find k b) := by rfl
theorem mptO_some {kk : KK} {k : Nat} {i v : AV} {es : List (AV × AV)} : mptO X Q K r s own kk k i v (some (.map es)) = mptR X Q K r s own k i v es (mfindI kk i es 0) := by rfl
def mksA (X : Cx) (Q : Post) (K : Slots → Own → Prop) (t : Nat) (r : List AO) (s : Slots) (own : Own) (sz bytes : Nat) (zs : List AV) (n : AV) : Prop :=
  match n with
  | .int _ m => 0 ≤ m ∧ bytes * m ≤ 281474976710656 ∧ m ≤ 9223372036854775807 ∧ ∀ b, runA X Q K r ((t, .row t b 0 m.toNat sz) :: s) ((t, b, .cells (List.replicate m.toNat zs).flatten) :: own)
  | _ => False
theorem runA_mkslice {t sz bytes : Nat} {zs : List AV} {n : Od} : runA X Q K (⟨some t, none, .mkslice sz bytes zs n⟩ :: r) s own = mksA X Q K t r s own sz bytes zs (n.ev s) := by rfl
theorem mksA_int {t sz bytes : Nat} {zs : List AV} {k : IntKind} {m : Int} : mksA X Q K t r s own sz bytes zs (.int k m) = (0 ≤ m ∧ bytes * m ≤ 281474976710656 ∧ m ≤ 9223372036854775807 ∧ ∀ b, runA X Q K r ((t, .row t b 0 m.toNat sz) :: s) ((t, b, .cells (List.replicate m.toNat zs).flatten) :: own)) := by rfl
theorem runA_alloc {t : Nat} {zs : List AV} : runA X Q K (⟨some t, none, .alloc zs⟩ :: r) s own = ∀ b, runA X Q K r ((t, .ptr t b 0) :: s) ((t, b, .cells zs) :: own) := by rfl
def boxA (X : Cx) (Q : Post) (K : Slots → Own → Prop) (t : Nat) (r : List AO) (s : Slots) (own : Own) (x : AV) : Prop := x.stor = true ∧ ∀ b, runA X Q K r ((t, .ptr t b 0) :: s) ((t, b, .cells x.cells) :: own)
theorem runA_box {t : Nat} {x : Od} : runA X Q K (⟨some t, none, .box x⟩ :: r) s own = boxA X Q K t r s own (x.ev s) := by rfl
theorem boxA_agg {t : Nat} {cs : List AV} : boxA X Q K t r s own (.agg cs) = ∀ b, runA X Q K r ((t, .ptr t b 0) :: s) ((t, b, .cells cs) :: own) := by
  simp [boxA, AV.stor, AV.cells]
theorem boxA_one {t : Nat} {x : AV} (h : x.stor = true) (h' : x.cells = [x]) : boxA X Q K t r s own x = ∀ b, runA X Q K r ((t, .ptr t b 0) :: s) ((t, b, .cells [x]) :: own) := by
  simp [boxA, h, h']
def mkrA (X : Cx) (Q : Post) (K : Slots → Own → Prop) (t : Nat) (r : List AO) (s : Slots) (own : Own) (sz n : Nat) (v : Option (List AV)) : Prop :=
  match v with
  | some cs => ∀ b, runA X Q K r ((t, .row t b 0 n sz) :: s) ((t, b, .cells cs) :: own)
  | _ => False
theorem runA_mkrow {t sz n : Nat} {zs : List AV} {ps : List (Nat × Nat × Od)} : runA X Q K (⟨some t, none, .mkrow sz n zs ps⟩ :: r) s own = mkrA X Q K t r s own sz n (fillA (List.replicate n zs).flatten (evP s ps)) := by
  rw [evP_eq]
  rfl
theorem mkrA_some {t sz n : Nat} {cs : List AV} : mkrA X Q K t r s own sz n (some cs) = ∀ b, runA X Q K r ((t, .row t b 0 n sz) :: s) ((t, b, .cells cs) :: own) := by rfl
def stoA (X : Cx) (Q : Post) (K : Slots → Own → Prop) (r : List AO) (s : Slots) (own : Own) (sz : Nat) (p x : AV) : Prop :=
  match p with
  | .ptr k b o => match own.find k b with
    | some (.cells cs) => x.stor = true ∧ x.cells.length = sz ∧ o + sz ≤ cs.length ∧ runA X Q K r s (own.put k (.cells (cs.take o ++ x.cells ++ cs.drop (o + sz))))
    | _ => False
  | _ => False
def stoO (X : Cx) (Q : Post) (K : Slots → Own → Prop) (r : List AO) (s : Slots) (own : Own) (sz k o : Nat) (v : Option Ob) (x : AV) : Prop :=
  match v with
  | some (.cells cs) => x.stor = true ∧ x.cells.length = sz ∧ o + sz ≤ cs.length ∧ runA X Q K r s (own.put k (.cells (cs.take o ++ x.cells ++ cs.drop (o + sz))))
  | _ => False
theorem runA_store {sz : Nat} {p x : Od} : runA X Q K (⟨none, none, .store sz p x⟩ :: r) s own = stoA X Q K r s own sz (p.ev s) (x.ev s) := by rfl
theorem stoA_ptr {sz k b o : Nat} {x : AV} : stoA X Q K r s own sz (.ptr k b o) x = stoO X Q K r s own sz k o (own.find k b) x := by
  rfl
theorem stoO_some {sz k o : Nat} {cs : List AV} {x : AV} : stoO X Q K r s own sz k o (some (.cells cs)) x = (x.stor = true ∧ x.cells.length = sz ∧ o + sz ≤ cs.length ∧ runA X Q K r s (own.put k (.cells (cs.take o ++ x.cells ++ cs.drop (o + sz))))) := by rfl
theorem runA_app {t sz bytes : Nat} {x y : Od} : runA X Q K (⟨some t, none, .app sz bytes x y⟩ :: r) s own = (0 < sz ∧ appA own (some t) sz bytes (x.ev s) (y.ev s) s (runA X Q K r)) := by rfl
theorem appA_nil {t sz bytes : Nat} {y : AV} {G : Slots → Own → Prop} : appA own (some t) sz bytes .nil y s G = elemsOf own sz y fun m cells => m * bytes ≤ 140737488355328 ∧ m ≤ 140737488355328 ∧ (m = 0 → G ((t, .nil) :: s) own) ∧ (0 < m → ∀ b, G ((t, .row t b 0 m sz) :: s) ((t, b, .cells cells) :: own)) := by rfl
def appO (own : Own) (t sz bytes : Nat) (k n : Nat) (v : Option Ob) (y : AV) (s : Slots) (G : Slots → Own → Prop) : Prop :=
  match v with
  | some (.cells cs) => elemsOf own sz y fun m cells => n * sz ≤ cs.length ∧ (n + m) * bytes ≤ 140737488355328 ∧ n + m ≤ 140737488355328 ∧
        ∀ b', G ((t, .row t b' 0 (n + m) sz) :: s) ((t, b', .cells (cs.take (n * sz) ++ cells)) :: own.drop k)
  | _ => False
theorem appA_row {t sz bytes k b o n z : Nat} {y : AV} {G : Slots → Own → Prop} : appA own (some t) sz bytes (.row k b o n z) y s G = (o = 0 ∧ z = sz ∧ appO own t sz bytes k n (own.find k b) y s G) := by
  rfl
theorem appO_some {t sz bytes k n : Nat} {cs : List AV} {y : AV} {G : Slots → Own → Prop} : appO own t sz bytes k n (some (.cells cs)) y s G = elemsOf own sz y fun m cells => n * sz ≤ cs.length ∧ (n + m) * bytes ≤ 140737488355328 ∧ n + m ≤ 140737488355328 ∧
        ∀ b', G ((t, .row t b' 0 (n + m) sz) :: s) ((t, b', .cells (cs.take (n * sz) ++ cells)) :: own.drop k) := by rfl
theorem elems_nil {sz : Nat} {G : Nat → List AV → Prop} : elemsOf own sz .nil G = G 0 [] := by rfl
theorem elems_sl {sz : Nat} {ys : List AV} {G : Nat → List AV → Prop} : elemsOf own sz (.sl ys) G = ((∀ x, x ∈ ys → x.cells.length = sz) ∧ G ys.length (ys.flatMap AV.cells)) := by rfl
def elemsO (sz o m : Nat) (v : Option Ob) (G : Nat → List AV → Prop) : Prop :=
  match v with
  | some (.cells cs) => o + m * sz ≤ cs.length ∧ G m ((cs.drop o).take (m * sz))
  | _ => False
theorem elems_row {sz k b o m z : Nat} {G : Nat → List AV → Prop} : elemsOf own sz (.row k b o m z) G = (z = sz ∧ elemsO sz o m (own.find k b) G) := by
  rfl
theorem elemsO_some {sz o m : Nat} {cs : List AV} {G : Nat → List AV → Prop} : elemsO sz o m (some (.cells cs)) G = (o + m * sz ≤ cs.length ∧ G m ((cs.drop o).take (m * sz))) := by rfl
def CallS (X : Cx) (Q : Post) (K : Slots → Own → Prop) (d : Option Nat) (r : List AO) (s : Slots) (own : Own) (f : FuncId) (args : List AV) : Prop := CallA X.P X.fr f args own (callK (runA X Q K r) Q d s)
theorem runA_callF {f : FuncId} {l : List Od} : runA X Q K (⟨d, none, .callF f l⟩ :: r) s own = CallS X Q K d r s own f (evL s l) := by
  rw [evL_eq]
  rfl
def CalV (X : Cx) (Q : Post) (K : Slots → Own → Prop) (d : Option Nat) (r : List AO) (s : Slots) (own : Own) (v : AV) (args : List AV) : Prop := ValA X.P X.fr v args own (callK (runA X Q K r) Q d s)
theorem runA_callV {v : Od} {l : List Od} : runA X Q K (⟨d, none, .callV v l⟩ :: r) s own = CalV X Q K d r s own (v.ev s) (evL s l) := by
  rw [evL_eq]
  rfl
theorem calV_fn {f : FuncId} {first cap args : List AV} : CalV X Q K d r s own (.fn (.func f) first cap) args = (okF X.P f = true ∧ CallS X Q K d r s own f (first ++ args ++ cap)) := by rfl
theorem call_at {P : Program} {f : FuncId} {args : List AV} {hand rest : Own} {R : Res → Own → Prop} (hP : X.P = P) (h : FnC P f args hand R) (hp : own.Perm (hand ++ rest))
    (hk : ∀ res own', R res own' → callK (runA X Q K r) Q d s res (own' ++ rest)) : CallS X Q K d r s own f args := by
  subst hP
  exact call_of h hp hk
theorem call_pure {P : Program} {f : FuncId} {args : List AV} {x : AV} (hP : X.P = P) (h : PureC P f args x) (hk : goA X Q K d r s own x) : CallS X Q K d r s own f args :=
  call_at (hand := []) (rest := own) hP h (List.Perm.refl _) (by rintro _ _ ⟨rfl, rfl⟩; exact hk)
theorem get_cons {t k : Nat} {x : AV} : Slots.get ((k, x) :: s) t = if k = t then x else s.get t := by rfl
theorem get_nil {t : Nat} : Slots.get [] t = .any := by rfl
theorem ev_t {t : Nat} : (Od.t t).ev s = s.get t := by rfl
theorem ev_c {x : AV} : (Od.c x).ev s = x := by rfl
theorem find_cons {k b k' b' : Nat} {ob : Ob} : Own.find ((k', b', ob) :: own) k b = if k' = k then (if b' = b then some ob else none) else own.find k b := by rfl
theorem put_cons {k k' b' : Nat} {ob ob' : Ob} : Own.put ((k', b', ob') :: own) k ob = if k' = k then (k', b', ob) :: own else (k', b', ob') :: own.put k ob := by rfl
theorem drop_cons {k k' b' : Nat} {ob' : Ob} : Own.drop ((k', b', ob') :: own) k = if k' = k then own else (k', b', ob') :: own.drop k := by rfl
theorem sub_nil : Slots.sub [] s = True := by rfl
theorem sub_cons {t : Nat} {x : AV} {s' : Slots} : Slots.sub ((t, x) :: s') s = (s.get t = x ∧ s'.sub s) := by rfl
def catO (v : Option Ob) (sz o : Nat) (G : List AV → Prop) : Prop :=
  match v with
  | some (.cells cs) => o + sz ≤ cs.length ∧ G ((cs.drop o).take sz)
  | _ => False
theorem cat_ptr {sz k b o : Nat} {G : List AV → Prop} : cellsAt own (.ptr k b o) sz G = catO (own.find k b) sz o G := by rfl
theorem cat_ref {sz : Nat} {cs : List AV} {G : List AV → Prop} : cellsAt own (.ref cs) sz G = (sz ≤ cs.length ∧ G (cs.take sz)) := by rfl
theorem catO_some {sz o : Nat} {cs : List AV} {G : List AV → Prop} : catO (some (.cells cs)) sz o G = (o + sz ≤ cs.length ∧ G ((cs.drop o).take sz)) := by rfl
theorem nn {n : Nat} : (0 ≤ (n : Int)) = True := eq_true (Int.natCast_nonneg n)
theorem callK_val {x : AV} {Kc : Slots → Own → Prop} : callK Kc Q d s (.val x) own = Kc (putS d x s) own := by rfl
theorem callK_pan {c : List PanicEntry} {Kc : Slots → Own → Prop} : callK Kc Q d s (.pan c) own = Q (.panic c) s own := by rfl
theorem putS_some {t : Nat} {x : AV} : putS (some t) x s = (t, x) :: s := by rfl
theorem putS_none {x : AV} : putS none x s = s := by rfl
theorem cells_agg {cs : List AV} : (AV.agg cs).cells = cs := by rfl
theorem cells_int {k : IntKind} {n : Int} : (AV.int k n).cells = [.int k n] := by rfl
theorem cells_bool {b : Bool} : (AV.bool b).cells = [.bool b] := by rfl
theorem cells_str {l : List UInt8} : (AV.str l).cells = [.str l] := by rfl
theorem cells_nil : AV.nil.cells = [.nil] := by rfl
theorem cells_sl {l : List AV} : (AV.sl l).cells = [.sl l] := by rfl
theorem cells_row {k b o n z : Nat} : (AV.row k b o n z).cells = [.row k b o n z] := by rfl
theorem cells_ptr {k b o : Nat} : (AV.ptr k b o).cells = [.ptr k b o] := by rfl
theorem cells_fn {f : Go.Fn} {p q : List AV} : (AV.fn f p q).cells = [.fn f p q] := by rfl
theorem cells_lit {v : Value} : (AV.lit v).cells = [.lit v] := by rfl
theorem stor_agg {cs : List AV} : (AV.agg cs).stor = true := by rfl
theorem stor_int {k : IntKind} {n : Int} : (AV.int k n).stor = true := by rfl
theorem stor_bool {b : Bool} : (AV.bool b).stor = true := by rfl
theorem stor_str {l : List UInt8} : (AV.str l).stor = true := by rfl
theorem stor_nil : AV.nil.stor = true := by rfl
theorem stor_sl {l : List AV} : (AV.sl l).stor = true := by rfl
theorem stor_row {k b o n z : Nat} : (AV.row k b o n z).stor = true := by rfl
theorem stor_ptr {k b o : Nat} : (AV.ptr k b o).stor = true := by rfl
theorem stor_fn {f : Go.Fn} {p q : List AV} : (AV.fn f p q).stor = true := by rfl
theorem stor_lit {v : Value} : (AV.lit v).stor = v.oneCell' := by rfl
theorem if_bool {c : Bool} {x y : Bool} : (if c = true then AV.bool x else AV.bool y) = AV.bool (if c = true then x else y) := by cases c <;> rfl
theorem if_int {c : Bool} {k : IntKind} {x y : Int} : (if c = true then AV.int k x else AV.int k y) = AV.int k (if c = true then x else y) := by cases c <;> rfl
theorem w64 {n : Int} (h0 : -9223372036854775808 ≤ n) (h1 : n ≤ 9223372036854775807) : IntKind.wrap .i64 n = n := by
  unfold IntKind.wrap
  simp only [IntKind.bits, IntKind.signed, Bool.true_and]
  split
  · rename_i h; simp at h; omega
  · rename_i h; simp at h; omega
end
section
variable {X : Cx} {K : Slots → Own → Prop} {r m : DT} {s : Slots} {A B : Own} {d : Option Nat} {op : AOp} {q : Bool}
theorem opA_pure {Q : Post} {own : Own} {K : Slots → Own → Prop} (h : op.isPure = true) : opA X Q d op s own K = op.step s own fun x => K (putS d x s) own := by
  cases op <;> first | rfl | cases h
def nope : Post := fun _ _ _ => False
def kT (X : Cx) (K : Slots → Own → Prop) (A : Own) (r : DT) (B : Own) : Slots → Own → Prop := fun s' _ => runT X K A r s' B
def kE (X : Cx) (K : Slots → Own → Prop) (A : Own) (r : DT) : Slots → Own → Prop := fun s' B' => runT X K A r s' B'
theorem kT_app {o : Own} : kT X K A r B s o = runT X K A r s B := by rfl
theorem kE_app : kE X K A r s B = runT X K A r s B := by rfl
theorem runT_done : runT X K A .done s B = K s (A ++ B) := by rfl
theorem runT_stop : runT X K A .stop s B = True := by rfl
def purT (X : Cx) (K : Slots → Own → Prop) (A : Own) (p : Bool) (d : Option Nat) (op : AOp) (r : DT) (s : Slots) (B : Own) : Prop :=
  match p with
  | true => runA X nope (fun s' _ => runT X K A r s' B) [⟨d, none, op⟩] s A
  | false => op.step s A (fun x => runT X K A r (putS d x s) B)
theorem runT_pur : runT X K A (.pur ⟨d, none, op⟩ r) s B = purT X K A op.isPure d op r s B := by
  cases h : op.isPure with
  | true => simp only [purT, runT, runA, guardP, opA_pure h]
  | false => simp only [purT, runT, guardP]
theorem purT_true : purT X K A true d op r s B = runA X nope (kT X K A r B) [⟨d, none, op⟩] s A := by rfl
def altT (X : Cx) (K : Slots → Own → Prop) (A : Own) (q p : Bool) (d : Option Nat) (op : AOp) (r : DT) (s : Slots) (B : Own) : Prop :=
  match q, p with
  | true, _ => runA X nope K [⟨d, none, op⟩] s (A ++ B)
  | false, true => runA X nope (fun s' _ => runT X K A r s' B) [⟨d, none, op⟩] s (A ++ B)
  | false, false => runA (X.hide A) nope (fun s' B' => runT X K A r s' B') [⟨d, none, op⟩] s B
theorem runT_alt : runT X K A (.alt q ⟨d, none, op⟩ r m) s B = (altT X K A q op.isPure d op r s B ∧ runT X K A m s B) := by
  cases q with
  | true => rfl
  | false =>
    cases h : op.isPure with
    | true => simp only [altT, runT, runA, guardP, h, if_true, opA_pure h]
    | false =>
      simp only [altT, runT, runA, guardP, h, Bool.false_eq_true, if_false]
      rfl
theorem runT_alt1 : runT X K A (.alt q ⟨d, none, op⟩ r .stop) s B = altT X K A q op.isPure d op r s B := by
  rw [runT_alt, runT_stop, and_true]
theorem altT_q {p : Bool} : altT X K A true p d op r s B = runA X nope K [⟨d, none, op⟩] s (A ++ B) := by cases p <;> rfl
theorem altT_p : altT X K A false true d op r s B = runA X nope (kT X K A r B) [⟨d, none, op⟩] s (A ++ B) := by rfl
theorem altT_e : altT X K A false false d op r s B = runA (X.hide A) nope (kE X K A r) [⟨d, none, op⟩] s B := by rfl
def grdP (X : Cx) (K : Slots → Own → Prop) (A : Own) (b : Bool) (d : Option Nat) (op : AOp) (r : DT) (s : Slots) (B : Own) (g : AV) : Prop :=
  match g with
  | .bool b' => if b' = b then runT X K A (.pur ⟨d, none, op⟩ r) s B else runT X K A r (putS d (.tup []) s) B
  | .tup [] => runT X K A r (putS d (.tup []) s) B
  | _ => False
theorem runT_pguard {t : Nat} {b : Bool} : runT X K A (.pur ⟨d, some (t, b), op⟩ r) s B = grdP X K A b d op r s B (s.get t) := by
  rfl
theorem grdP_bool {b b' : Bool} : grdP X K A b d op r s B (.bool b') = if b' = b then runT X K A (.pur ⟨d, none, op⟩ r) s B else runT X K A r (putS d (.tup []) s) B := by rfl
theorem grdP_undef {b : Bool} : grdP X K A b d op r s B (.tup []) = runT X K A r (putS d (.tup []) s) B := by rfl
def skT (X : Cx) (K : Slots → Own → Prop) (A : Own) (q : Bool) (d : Option Nat) (r : DT) (s : Slots) (B : Own) : Prop :=
  match q with
  | true => K (putS d (.tup []) s) (A ++ B)
  | false => runT X K A r (putS d (.tup []) s) B
theorem runT_aguard {t : Nat} {b b' : Bool} (h : s.get t = .bool b') : runT X K A (.alt q ⟨d, some (t, b), op⟩ r m) s B = if b' = b then runT X K A (.alt q ⟨d, none, op⟩ r m) s B else skT X K A q d r s B ∧ runT X K A m s B := by
  cases q <;> (simp only [runT, guardP, h, skT]; split <;> rfl)
theorem runT_aundef {t : Nat} {b : Bool} (h : s.get t = .tup []) : runT X K A (.alt q ⟨d, some (t, b), op⟩ r m) s B = (skT X K A q d r s B ∧ runT X K A m s B) := by
  cases q <;> simp only [runT, guardP, h, skT]
theorem skT_true : skT X K A true d r s B = K (putS d (.tup []) s) (A ++ B) := by rfl
theorem skT_false : skT X K A false d r s B = runT X K A r (putS d (.tup []) s) B := by rfl
theorem pu_mov {x : Od} : AOp.isPure (.mov x) = true := by rfl
theorem pu_pick {x y z : Od} : AOp.isPure (.pick x y z) = true := by rfl
theorem pu_load {a : Bool} {z : Nat} {x : Od} : AOp.isPure (.load a z x) = true := by rfl
theorem pu_fadr {z : Nat} {x : Od} : AOp.isPure (.fadr z x) = true := by rfl
theorem pu_iadr {z : Nat} {x y : Od} : AOp.isPure (.iadr z x y) = true := by rfl
theorem pu_iadA {z m : Nat} {x y : Od} : AOp.isPure (.iadA z m x y) = true := by rfl
theorem pu_fld {a : Bool} {z m : Nat} {x : Od} : AOp.isPure (.fld a z m x) = true := by rfl
theorem pu_bld {z : List AV} {ps : List (Nat × Nat × Od)} : AOp.isPure (.bld z ps) = true := by rfl
theorem pu_bin {o : BinOp} {x y : Od} : AOp.isPure (.bin o x y) = true := by rfl
theorem pu_binB {o : BinOp} {x y : Od} : AOp.isPure (.binB o x y) = true := by rfl
theorem pu_un {o : UnOp} {x : Od} : AOp.isPure (.un o x) = true := by rfl
theorem pu_conv {k : IntKind} {x : Od} : AOp.isPure (.conv k x) = true := by rfl
theorem pu_ext {z : Nat} {x : Od} : AOp.isPure (.ext z x) = true := by rfl
theorem pu_len {x : Od} : AOp.isPure (.len x) = true := by rfl
theorem pu_lenS {x : Od} : AOp.isPure (.lenS x) = true := by rfl
theorem pu_idxS {x y : Od} : AOp.isPure (.idxS x y) = true := by rfl
theorem pu_mkfn {f : Go.Fn} {x y : List Od} : AOp.isPure (.mkfn f x y) = true := by rfl
theorem pu_slc {z : Nat} {x : Od} {l h : Option Od} : AOp.isPure (.slc z x l h) = true := by rfl
theorem pu_slcS {x : Od} {l h : Option Od} : AOp.isPure (.slcS x l h) = true := by rfl
theorem pu_alloc {z : List AV} : AOp.isPure (.alloc z) = false := by rfl
theorem pu_box {x : Od} : AOp.isPure (.box x) = false := by rfl
theorem pu_mkrow {z n : Nat} {zs : List AV} {ps : List (Nat × Nat × Od)} : AOp.isPure (.mkrow z n zs ps) = false := by rfl
theorem pu_store {z : Nat} {x y : Od} : AOp.isPure (.store z x y) = false := by rfl
theorem pu_app {z n : Nat} {x y : Od} : AOp.isPure (.app z n x y) = false := by rfl
theorem pu_callF {f : FuncId} {x : List Od} : AOp.isPure (.callF f x) = false := by rfl
theorem pu_callV {f : Od} {x : List Od} : AOp.isPure (.callV f x) = false := by rfl
theorem pu_nilc {x : Od} : AOp.isPure (.nilc x) = true := by rfl
theorem pu_eqS {neg : Bool} {ks : List KK} {x y : Od} : AOp.isPure (.eqS neg ks x y) = true := by rfl
theorem pu_nilS {neg : Bool} {x : Od} : AOp.isPure (.nilS neg x) = true := by rfl
theorem pu_mlook {ok : Bool} {kk : KK} {z : AV} {x i : Od} : AOp.isPure (.mlook ok kk z x i) = true := by rfl
theorem pu_mlen {x : Od} : AOp.isPure (.mlen x) = true := by rfl
theorem pu_mkmap : AOp.isPure .mkmap = false := by rfl
theorem pu_mput {kk : KK} {x i v : Od} : AOp.isPure (.mput kk x i v) = false := by rfl
theorem pu_mkslice {sz bytes : Nat} {zs : List AV} {n : Od} : AOp.isPure (.mkslice sz bytes zs n) = false := by rfl
end
attribute [go_sem] pu_nilc pu_eqS pu_nilS pu_mlook pu_mlen pu_mkmap pu_mput pu_mkslice runA_nilc nlcA_ptr nlcA_ref runA_eqS eqzA_agg eqsA_eq eqsA_ne eqC_nil eqC_cons bndO_some same_i same_s same_b runA_nilS nisA_nil nisA_row nisA_sl
  runA_mlook mlkA_mapv mlkO_some mres_t mres_f runA_mlen mlnA_mapv mlnO_some runA_mkmap runA_mput mptA_mapv mptO_some runA_mkslice mksA_int
attribute [go_sem] kT_app kE_app runT_done runT_stop runT_pur purT_true runT_alt1 altT_q altT_p altT_e runT_pguard grdP_bool grdP_undef runT_aguard runT_aundef skT_true skT_false pu_mov pu_pick pu_load pu_fadr pu_iadr pu_iadA pu_fld pu_bld pu_bin pu_binB pu_un pu_conv pu_ext pu_len pu_lenS pu_idxS pu_mkfn pu_slc pu_slcS pu_alloc pu_box pu_mkrow pu_store pu_app pu_callF pu_callV
attribute [go_sem] goA_some goA_none runA_nil runA_guard grdA_bool grdA_undef runA_mov runA_pick pickA_bool runA_load ldA_ptr ldA_ref ldO_some mk_true mk_false
  runA_fadr fadA_ptr fadA_ref runA_iadr iadA_sl iadA_row runA_iadA iaaA_ptr iaaA_ref runA_fld fldA_agg evP_nil evP_cons evL_nil evL_cons fillA_nil fillA_cint fillA_cbool fillA_cstr fillA_cnil fillA_csl fillA_cagg fillA_crow fillA_cptr fillA_cfn fillA_cref fillA_cmapv fillA_clit runA_bld bldA_some
  runA_bin binA_int binA_str binI_add binI_sub binI_mul binI_quo binI_rem binI_eql binI_neq binI_lss binI_leq binI_gtr binI_geq binS_add binS_eql binS_neq binS_lss runA_binB bibA_eql bibA_neq
  runA_un unV_not unV_neg runA_conv cnvA_int runA_ext extA_0 extA_1 extA_2 extA_3 runA_len lenA_sl lenA_row lenA_nil runA_lenS lnsA_str runA_idxS ixsA_str runA_mkfn evO_none evO_some
  runA_slc slcA_to slcA_from slcA_both slcA_row runA_slcS slsA_to slsA_from slsA_both runA_alloc runA_box boxA_agg boxA_one runA_mkrow mkrA_some runA_store stoA_ptr stoO_some
  runA_app appA_nil appA_row appO_some elems_nil elems_sl elems_row elemsO_some runA_callF runA_callV calV_fn get_cons get_nil ev_t ev_c find_cons put_cons drop_cons
  cells_agg cells_int cells_bool cells_str cells_nil cells_sl cells_row cells_ptr cells_fn cells_lit stor_agg stor_int stor_bool stor_str stor_nil stor_sl stor_row stor_ptr stor_fn stor_lit
  sub_nil sub_cons resK_nil resK_tmp resK_cell resV_one resV_two resV_three resV_nil cat_ptr cat_ref catO_some nn callK_val callK_pan putS_some putS_none if_bool if_int
attribute [go_sem] List.length_cons List.length_nil List.drop_zero List.drop_succ_cons List.drop_nil List.take_zero List.take_succ_cons List.take_nil List.nil_append List.cons_append List.append_nil List.replicate_succ List.replicate_zero List.flatten_cons List.flatten_nil
  Nat.zero_add Nat.add_zero Int.toNat_natCast Nat.mul_one Nat.one_mul List.getD_cons_zero List.getD_cons_succ
  if_true if_false decide_true decide_false Bool.not_true Bool.not_false true_and and_true false_and and_false eq_self ne_eq not_true_eq_false not_false_eq_true Bool.false_eq_true Bool.true_eq_false reduceCtorEq
end Go.Aw
namespace Go.Aw
inductive Frz (fz : Own) : AV → AV → Prop where
  | keep (x : AV) : Frz fz x x
  | any (x : AV) : Frz fz x .any
  | lptr (k k' b o : Nat) : Frz fz (.ptr k b o) (.ptr k' b o)
  | lrow (k k' b o n s : Nat) : Frz fz (.row k b o n s) (.row k' b o n s)
  | lmap (k k' b : Nat) : Frz fz (.mapv k b) (.mapv k' b)
  | ptr (k b o : Nat) (cs ys : List AV) (c : Nat → AV) (hf : fz.find k b = some (.cells cs)) (hc : ∀ (j : Nat) (y : AV), ys[j]? = some y → cs[o + j]? = some (c j)) (h : ∀ (j : Nat) (y : AV), ys[j]? = some y → Frz fz (c j) y) : Frz fz (.ptr k b o) (.ref ys)
  | row (k b o n s : Nat) (cs xs : List AV) (c : Nat → AV) (hf : fz.find k b = some (.cells cs)) (hn : n = xs.length) (hs : ∀ (i : Nat) (x : AV), xs[i]? = some x → x.cells.length = s)
      (hc : ∀ (i : Nat) (x : AV) (j : Nat) (y : AV), xs[i]? = some x → x.cells[j]? = some y → cs[o + i * s + j]? = some (c (i * s + j)))
      (h : ∀ (i : Nat) (x : AV) (j : Nat) (y : AV), xs[i]? = some x → x.cells[j]? = some y → Frz fz (c (i * s + j)) y) : Frz fz (.row k b o n s) (.sl xs)
  | nil : Frz fz .nil (.sl [])
  | agg (cs ys : List AV) (hl : cs.length = ys.length) (h : ∀ (j : Nat) (c y : AV), cs[j]? = some c → ys[j]? = some y → Frz fz c y) : Frz fz (.agg cs) (.agg ys)
  | tup (cs ys : List AV) (hl : cs.length = ys.length) (h : ∀ (j : Nat) (c y : AV), cs[j]? = some c → ys[j]? = some y → Frz fz c y) : Frz fz (.tup cs) (.tup ys)
  | fn (f : Fn) (as bs cs ds : List AV) (hl : as.length = cs.length) (hl' : bs.length = ds.length) (h : ∀ (j : Nat) (c y : AV), as[j]? = some c → cs[j]? = some y → Frz fz c y) (h' : ∀ (j : Nat) (c y : AV), bs[j]? = some c → ds[j]? = some y → Frz fz c y) : Frz fz (.fn f as bs) (.fn f cs ds)
  | ifc (t : TypeId) (x y : AV) (h : Frz fz x y) : Frz fz (.ifc t x) (.ifc t y)
theorem frz_rel {fr : Nat → Prop} {w : World} {fz rest : Own} (hok : OwnOk fr w (fz ++ rest)) {x y : AV} (h : Frz fz x y) : ∀ {v : Value}, Rel (Fo fr (fz ++ rest)) w v x → Rel (Fo fr rest) w v y := by
  have hnd := hok.nodup
  rw [List.map_append] at hnd
  obtain ⟨_, _, hap⟩ := List.nodup_append.1 hnd
  have hF : ∀ b, Fo fr rest b → Fo fr (fz ++ rest) b := fun b h => h.imp id (fun h => by
    unfold Own.has at h ⊢
    rw [List.map_append, List.mem_append]
    exact .inr h)
  have free : ∀ {k b : Nat} {cs : List AV}, fz.find k b = some (.cells cs) → ¬ Fo fr rest b := fun {k b cs} hf h => by
    have hm := Own.find_mem hf
    have hb : b ∈ fz.map (fun e => e.2.1) := List.mem_map.2 ⟨_, hm, rfl⟩
    rcases h with h | h
    · exact hok.apart b (by unfold Own.has; rw [List.map_append, List.mem_append]; exact .inl hb) h
    · exact hap b hb b h rfl
  have cells : ∀ {k b : Nat} {cs : List AV}, fz.find k b = some (.cells cs) → b < w.heap.size ∧ ∀ (i : Nat) (c : AV), cs[i]? = some c → ∃ v, w.cell? ⟨b, i, none⟩ = some v ∧ v.oneCell' = true ∧ Rel (Fo fr (fz ++ rest)) w v c := fun {k b cs} hf => by
    have hh := hok.holds _ (List.mem_append_left rest (Own.find_mem hf))
    exact ⟨hh.lt, hh.2.2⟩
  induction h with
  | keep x => exact fun h => h.mono (Grow.refl _ _) (fun b _ h => hF b h)
  | any x => exact fun _ => .any _
  | lptr k k' b o => intro v h; cases h; exact .ptr _ _ _
  | lrow k k' b o n s =>
    intro v h
    cases h with
    | row _ _ _ _ _ cap csz T h1 h2 h3 => exact .row _ _ _ _ _ cap csz T h1 h2 h3
  | lmap k k' b => intro v h; cases h; exact .mapv _ _
  | nil =>
    intro v h
    cases h
    exact .slnil
  | ptr k b o cs ys c hf hc h ih =>
    intro v hv
    cases hv
    obtain ⟨hlt, hcell⟩ := cells hf
    have hcv : ∀ (j : Nat) (y : AV), ys[j]? = some y → ∃ u, w.cell? ⟨b, o + j, none⟩ = some u ∧ u.oneCell' = true ∧ Rel (Fo fr rest) w u y := fun j y hy => by
      obtain ⟨u, h3, h4, h5⟩ := hcell _ _ (hc j y hy)
      exact ⟨u, h3, h4, ih j y hy h5⟩
    refine .ref b o ys (fun j => (w.cell? ⟨b, o + j, none⟩).getD undef) (free hf) hlt (fun j y hy => ?_) (fun j y hy => ?_) (fun j y hy => ?_)
    · obtain ⟨u, h3, _, _⟩ := hcv j y hy
      simp [h3]
    · obtain ⟨u, h3, h4, _⟩ := hcv j y hy
      simpa [h3] using h4
    · obtain ⟨u, h3, _, h5⟩ := hcv j y hy
      simpa [h3] using h5
  | row k b o n s cs xs c hf hn hs hc h ih =>
    intro v hv
    cases hv with
    | row _ _ _ _ _ cap csz T hn' hsh hcap =>
    obtain ⟨hlt, hcell⟩ := cells hf
    have hcv : ∀ (i : Nat) (x : AV) (j : Nat) (y : AV), xs[i]? = some x → x.cells[j]? = some y → ∃ u, w.cell? ⟨b, o + i * s + j, none⟩ = some u ∧ u.oneCell' = true ∧ Rel (Fo fr rest) w u y := fun i x j y hx hy => by
      obtain ⟨u, h3, h4, h5⟩ := hcell _ _ (hc i x j y hx hy)
      exact ⟨u, h3, h4, ih i x j y hx hy h5⟩
    have hcv' : ∀ (i : Nat) (x : AV) (j : Nat) (y : AV), xs[i]? = some x → x.cells[j]? = some y → ∃ u, w.cell? ⟨b, o + (i * s + j), none⟩ = some u ∧ u.oneCell' = true ∧ Rel (Fo fr rest) w u y := fun i x j y hx hy => by
      have := hcv i x j y hx hy
      rwa [Nat.add_assoc] at this
    refine .sl b o n cap s xs (fun j => (w.cell? ⟨b, o + j, none⟩).getD undef) (free hf) hlt hn hn' hs (fun i x j y hx hy => ?_) (fun i x j y hx hy => ?_) (fun i x j y hx hy => ?_)
    · obtain ⟨u, h3, _, _⟩ := hcv' i x j y hx hy
      rw [Nat.add_assoc]
      simp [h3]
    · obtain ⟨u, h3, h4, _⟩ := hcv' i x j y hx hy
      simpa [h3] using h4
    · obtain ⟨u, h3, _, h5⟩ := hcv' i x j y hx hy
      simpa [h3] using h5
  | agg cs ys hl h ih =>
    intro v hv
    cases hv with
    | agg vs _ hlen ho hr => exact .agg _ _ (by omega) ho (fun j u y hu hy => by
        have hlt : j < cs.length := by have := (List.getElem?_eq_some_iff.1 hy).1; omega
        exact ih j _ y (List.getElem?_eq_getElem hlt) hy (hr j u _ hu (List.getElem?_eq_getElem hlt)))
  | tup cs ys hl h ih =>
    intro v hv
    cases hv with
    | tup vs _ hlen hr => exact .tup _ _ (by omega) (fun j u y hu hy => by
        have hlt : j < cs.length := by have := (List.getElem?_eq_some_iff.1 hy).1; omega
        exact ih j _ y (List.getElem?_eq_getElem hlt) hy (hr j u _ hu (List.getElem?_eq_getElem hlt)))
  | fn f as bs cs ds hl hl' h h' ih ih' =>
    intro v hv
    cases hv with
    | fn _ us vs _ _ h1 h2 hr hr' => exact .fn _ _ _ _ _ (by omega) (by omega) (fun j u y hu hy => by
        have hlt : j < as.length := by have := (List.getElem?_eq_some_iff.1 hy).1; omega
        exact ih j _ y (List.getElem?_eq_getElem hlt) hy (hr j u _ hu (List.getElem?_eq_getElem hlt))) (fun j u y hu hy => by
        have hlt : j < bs.length := by have := (List.getElem?_eq_some_iff.1 hy).1; omega
        exact ih' j _ y (List.getElem?_eq_getElem hlt) hy (hr' j u _ hu (List.getElem?_eq_getElem hlt)))
  | ifc t x y h ih =>
    intro v hv
    cases hv with
    | ifc _ u _ hr => exact .ifc _ _ _ (ih hr)
theorem Rep.frz {X : Cx} {s s' : Slots} {own fz rest : Own} {a : Act} {w : World} (R : Rep X s own a w) (hp : own.Perm (fz ++ rest)) (h : ∀ t, Frz fz (s.get t) (s'.get t)) : Rep X s' rest a w := by
  have R1 : Rep X s (fz ++ rest) a w := R.reown _ (fun e he => ⟨e, hp.mem_iff.2 he, rfl, ObLe.refl _⟩) ((hp.map _).nodup_iff.1 R.ok.nodup)
  have hnd := R1.ok.nodup
  rw [List.map_append] at hnd
  have R2 : Rep X s rest a w := R1.reown rest (fun e he => ⟨e, List.mem_append_right _ he, rfl, ObLe.refl _⟩) (List.nodup_append.1 hnd).2.1
  exact ⟨fun t => frz_rel R1.ok (h t) (R1.tm t), R2.ok, R2.new, R2.size, R2.defs, R2.kept⟩
theorem awp_ent {X : Cx} {s s' : Slots} {own own' : Own} {Q : Post} {x : AC} (h : Ent X s own s' own') (hk : AWP X x s' own' Q) : AWP X x s own Q := fun c hc a w R => hk c hc a w (h a w R)
def SubF (fz : Own) (s : Slots) : Slots → Prop
  | [] => True
  | (t, x) :: r => Frz fz (s.get t) x ∧ SubF fz s r
theorem subF_get {fz : Own} {s : Slots} : ∀ (s' : Slots), SubF fz s s' → ∀ t, Frz fz (s.get t) (s'.get t)
  | [], _, _ => .any _
  | (k, x) :: r, h, t => by
    simp only [Slots.get]
    by_cases hk : k = t
    · subst hk
      rw [if_pos rfl]
      exact h.1
    · rw [if_neg hk]
      exact subF_get r h.2 t
end Go.Aw
namespace Go.Aw
section
variable {P : Program} {n k l : Nat} {ps : List Nat} {x y : AC} {st : LoopState} {s s' : Slots} {Q : Post} {own : Own} {v : AV}
theorem putAll_cons {t : Nat} {r : List Nat} {a : AV} {xs : List AV} : putAll (t :: r) (a :: xs) s = putAll r xs ((t, a) :: s) := by rfl
theorem putAll_nil : putAll [] [] s = s := by rfl
end
section
variable {X : Cx} {Q : Post} {K : Slots → Own → Prop} {r : List AO} {s : Slots} {own : Own} {t : Nat}
theorem boxA_int {k : IntKind} {n : Int} : boxA X Q K t r s own (.int k n) = ∀ b, runA X Q K r ((t, .ptr t b 0) :: s) ((t, b, .cells [.int k n]) :: own) := boxA_one rfl rfl
theorem boxA_bool {c : Bool} : boxA X Q K t r s own (.bool c) = ∀ b, runA X Q K r ((t, .ptr t b 0) :: s) ((t, b, .cells [.bool c]) :: own) := boxA_one rfl rfl
theorem boxA_str {l : List UInt8} : boxA X Q K t r s own (.str l) = ∀ b, runA X Q K r ((t, .ptr t b 0) :: s) ((t, b, .cells [.str l]) :: own) := boxA_one rfl rfl
theorem boxA_fn {f : Go.Fn} {p q : List AV} : boxA X Q K t r s own (.fn f p q) = ∀ b, runA X Q K r ((t, .ptr t b 0) :: s) ((t, b, .cells [.fn f p q]) :: own) := boxA_one rfl rfl
theorem boxA_sl {l : List AV} : boxA X Q K t r s own (.sl l) = ∀ b, runA X Q K r ((t, .ptr t b 0) :: s) ((t, b, .cells [.sl l]) :: own) := boxA_one rfl rfl
theorem boxA_nil : boxA X Q K t r s own .nil = ∀ b, runA X Q K r ((t, .ptr t b 0) :: s) ((t, b, .cells [.nil]) :: own) := boxA_one rfl rfl
theorem boxA_row {k' b' o' n z : Nat} : boxA X Q K t r s own (.row k' b' o' n z) = ∀ b, runA X Q K r ((t, .ptr t b 0) :: s) ((t, b, .cells [.row k' b' o' n z]) :: own) := boxA_one rfl rfl
theorem boxA_ptr {k' b' o' : Nat} : boxA X Q K t r s own (.ptr k' b' o') = ∀ b, runA X Q K r ((t, .ptr t b 0) :: s) ((t, b, .cells [.ptr k' b' o']) :: own) := boxA_one rfl rfl
theorem boxA_ref {l : List AV} : boxA X Q K t r s own (.ref l) = ∀ b, runA X Q K r ((t, .ptr t b 0) :: s) ((t, b, .cells [.ref l]) :: own) := boxA_one rfl rfl
end
attribute [go_sem] boxA_int boxA_bool boxA_str boxA_fn boxA_sl boxA_nil boxA_row boxA_ptr boxA_ref
inductive FrzL (fz : Own) : List AV → List AV → Prop where
  | nil : FrzL fz [] []
  | cons {x y : AV} {l m : List AV} (h : Frz fz x y) (hs : FrzL fz l m) : FrzL fz (x :: l) (y :: m)
theorem FrzL.get {fz : Own} {l m : List AV} (h : FrzL fz l m) : l.length = m.length ∧ ∀ (j : Nat) (x y : AV), l[j]? = some x → m[j]? = some y → Frz fz x y := by
  induction h with
  | nil => exact ⟨rfl, fun j x y h => by simp at h⟩
  | cons h hs ih =>
    refine ⟨by simp [ih.1], fun j x y hx hy => ?_⟩
    cases j with
    | zero =>
      simp only [List.getElem?_cons_zero, Option.some.injEq] at hx hy
      rw [← hx, ← hy]
      exact h
    | succ j => exact ih.2 j x y (by simpa using hx) (by simpa using hy)
theorem OwnOk.less {fr : Nat → Prop} {w : World} {own own' : Own} (h : OwnOk fr w own) (hs : ∀ e, e ∈ own' → e ∈ own) (hn : (own'.map fun e => e.2.1).Nodup) : OwnOk fr w own' := by
  have hh : ∀ b, own'.has b → own.has b := fun b hb => by
    obtain ⟨e, he, rfl⟩ := List.mem_map.1 hb
    exact List.mem_map.2 ⟨e, hs e he, rfl⟩
  exact ⟨fun e he => (h.holds e (hs e he)).mono (Grow.refl (fun _ => False) w) (fun _ f => f.elim) (fun f => f) (fun b _ hb => hb.imp id (hh b)), hn, fun b hb => h.apart b (hh b hb), h.fr⟩
attribute [go_sem] putAll_cons putAll_nil
end Go.Aw
namespace Go.Aw
inductive FrzP (fz : Own) : List AV → List AV → Prop where
  | nil (l : List AV) : FrzP fz l []
  | cons {x y : AV} {l m : List AV} (h : Frz fz x y) (hs : FrzP fz l m) : FrzP fz (x :: l) (y :: m)
theorem FrzP.get {fz : Own} {l m : List AV} (h : FrzP fz l m) : m.length ≤ l.length ∧ ∀ (j : Nat) (y : AV), m[j]? = some y → ∃ x, l[j]? = some x ∧ Frz fz x y := by
  induction h with
  | nil => exact ⟨by simp, fun j y h => by simp at h⟩
  | cons h hs ih =>
    refine ⟨by simp [ih.1], fun j y hy => ?_⟩
    cases j with
    | zero =>
      simp only [List.getElem?_cons_zero, Option.some.injEq] at hy
      subst hy
      exact ⟨_, rfl, h⟩
    | succ j => exact ih.2 j y (by simpa using hy)
theorem FrzP.refl (fz : Own) : ∀ (l : List AV), FrzP fz l l
  | [] => .nil _
  | x :: l => .cons (.keep x) (FrzP.refl fz l)
theorem FrzP.of_eq {fz : Own} {l m : List AV} (h : l = m) : FrzP fz l m := h ▸ FrzP.refl fz l
theorem FrzP.app {fz : Own} {l m l' m' : List AV} (h : FrzP fz l m) (hl : l.length = m.length) (h' : FrzP fz l' m') : FrzP fz (l ++ l') (m ++ m') := by
  induction h with
  | nil l =>
    have : l = [] := by simpa using hl
    subst this
    exact h'
  | cons h hs ih => exact .cons h (ih (by simpa using hl))
theorem FrzL.refl (fz : Own) : ∀ (l : List AV), FrzL fz l l
  | [] => .nil
  | x :: l => .cons (.keep x) (FrzL.refl fz l)
theorem Frz.fnL {fz : Own} {f : Fn} {as bs cs ds : List AV} (h : FrzL fz as cs) (h' : FrzL fz bs ds) : Frz fz (.fn f as bs) (.fn f cs ds) := .fn _ _ _ _ _ h.get.1 h'.get.1 h.get.2 h'.get.2
inductive OwnLe (fz : Own) : Own → Own → Prop where
  | nil : OwnLe fz [] []
  | drop {e : Nat × Nat × Ob} {l m : Own} (h : OwnLe fz l m) : OwnLe fz (e :: l) m
  | same {k k' b : Nat} {ob : Ob} {l m : Own} (hn : match ob with | .cells _ => True | .map _ => True | .loop _ _ => False) (hc : match ob with | .cells cs => FrzP fz cs cs | _ => True) (h : OwnLe fz l m) : OwnLe fz ((k, b, ob) :: l) ((k', b, ob) :: m)
  | cells {k k' b : Nat} {cs ys : List AV} {l m : Own} (hc : FrzP fz cs ys) (h : OwnLe fz l m) : OwnLe fz ((k, b, .cells cs) :: l) ((k', b, .cells ys) :: m)
  | map {k k' b : Nat} {es fs : List (AV × AV)} {l m : Own} (hl : es.length = fs.length) (hc : ∀ (i : Nat) (p q : AV × AV), es[i]? = some p → fs[i]? = some q → Frz fz p.1 q.1 ∧ Frz fz p.2 q.2) (h : OwnLe fz l m) : OwnLe fz ((k, b, .map es) :: l) ((k', b, .map fs) :: m)
theorem OwnLe.cell {fz : Own} {k k' b : Nat} {cs : List AV} {l m : Own} (h : OwnLe fz l m) : OwnLe fz ((k, b, .cells cs) :: l) ((k', b, .cells cs) :: m) := .cells (FrzP.refl fz cs) h
theorem OwnLe.sub {fz l m : Own} (h : OwnLe fz l m) : (m.map fun e => e.2.1).Sublist (l.map fun e => e.2.1) := by
  induction h with
  | nil => exact List.Sublist.refl _
  | drop h ih => exact ih.trans (List.sublist_cons_self _ _)
  | same _ _ h ih => exact ih.cons_cons _
  | cells _ h ih => exact ih.cons_cons _
  | map _ _ h ih => exact ih.cons_cons _
theorem OwnLe.holds {fr : Nat → Prop} {w : World} {fz rest l m : Own} (hok : OwnOk fr w (fz ++ rest)) {F' : Nat → Prop} (hF' : ∀ b, F' b → Fo fr rest b) (h : OwnLe fz l m) (hl : ∀ e, e ∈ l → Holds (Fo fr (fz ++ rest)) w e.2.1 e.2.2) : ∀ e, e ∈ m → Holds F' w e.2.1 e.2.2 := by
  have tr : ∀ {x y : AV} {v : Value}, Frz fz x y → Rel (Fo fr (fz ++ rest)) w v x → Rel F' w v y := fun hz hr => (frz_rel hok hz hr).mono (Grow.refl _ _) (fun b _ hb => hF' b hb)
  have cellsOk : ∀ {b : Nat} {cs ys : List AV}, FrzP fz cs ys → Holds (Fo fr (fz ++ rest)) w b (.cells cs) → Holds F' w b (.cells ys) := by
    intro b cs ys hp hh
    obtain ⟨⟨T, sz, h1, h2⟩, h3, h4⟩ := hh
    obtain ⟨hlen, hg⟩ := hp.get
    refine ⟨⟨T, sz, h1, by omega⟩, h3, fun i y hy => ?_⟩
    obtain ⟨x, hx, hz⟩ := hg i y hy
    obtain ⟨v, hv, ho, hr⟩ := h4 i x hx
    exact ⟨v, hv, ho, tr hz hr⟩
  have mapOk : ∀ {b : Nat} {es fs : List (AV × AV)}, es.length = fs.length → (∀ (i : Nat) (p q : AV × AV), es[i]? = some p → fs[i]? = some q → Frz fz p.1 q.1 ∧ Frz fz p.2 q.2) → Holds (Fo fr (fz ++ rest)) w b (.map es) → Holds F' w b (.map fs) := by
    intro b es fs hl hc hh
    obtain ⟨ents, c, h1, h2, h3⟩ := hh
    refine ⟨ents, c, h1, by omega, fun i e q he hq => ?_⟩
    have hlt : i < es.length := by have := (List.getElem?_eq_some_iff.1 hq).1; omega
    have hp := List.getElem?_eq_getElem hlt
    obtain ⟨h4, h5⟩ := h3 i e _ he hp
    obtain ⟨h6, h7⟩ := hc i _ q hp hq
    exact ⟨tr h6 h4, tr h7 h5⟩
  induction h with
  | nil => intro e he; cases he
  | drop h ih => exact ih (fun e he => hl e (List.mem_cons_of_mem _ he))
  | @same k k' b ob l m hn hc h ih =>
    intro e he
    rcases List.mem_cons.1 he with rfl | he
    · have hh := hl (k, b, ob) (List.mem_cons_self ..)
      cases ob with
      | cells cs => exact cellsOk hc hh
      | map es => exact mapOk rfl (fun i p q hp hq => by rw [hp] at hq; cases hq; exact ⟨.keep _, .keep _⟩) hh
      | loop => exact hn.elim
    · exact ih (fun e he => hl e (List.mem_cons_of_mem _ he)) e he
  | cells hc h ih =>
    intro e he
    rcases List.mem_cons.1 he with rfl | he
    · exact cellsOk hc (hl _ (List.mem_cons_self ..))
    · exact ih (fun e he => hl e (List.mem_cons_of_mem _ he)) e he
  | map hlen hc h ih =>
    intro e he
    rcases List.mem_cons.1 he with rfl | he
    · exact mapOk hlen hc (hl _ (List.mem_cons_self ..))
    · exact ih (fun e he => hl e (List.mem_cons_of_mem _ he)) e he
theorem ok_le {fr : Nat → Prop} {w : World} {own fz rest own' : Own} (hok : OwnOk fr w own) (hp : own.Perm (fz ++ rest)) (h : OwnLe fz rest own') : OwnOk fr w (fz ++ rest) ∧ OwnOk fr w own' ∧ (∀ b, own'.has b → own.has b) ∧ (∀ b, Fo fr own' b → Fo fr rest b) := by
  have h1 : OwnOk fr w (fz ++ rest) := hok.less (fun e he => hp.mem_iff.2 he) ((hp.map _).nodup_iff.1 hok.nodup)
  have hnd := h1.nodup
  rw [List.map_append] at hnd
  have hs := h.sub
  have hh : ∀ b, own'.has b → rest.has b := fun b hb => hs.subset hb
  have hF : ∀ b, Fo fr own' b → Fo fr rest b := fun b hb => hb.imp id (hh b)
  have hro : ∀ b, rest.has b → own.has b := fun b hb => by
    obtain ⟨e, he, rfl⟩ := List.mem_map.1 hb
    exact List.mem_map.2 ⟨e, hp.mem_iff.2 (List.mem_append_right _ he), rfl⟩
  refine ⟨h1, ⟨h.holds h1 hF (fun e he => h1.holds e (List.mem_append_right _ he)), hs.nodup (List.nodup_append.1 hnd).2.1, fun b hb => hok.apart b (hro b (hh b hb)), hok.fr⟩, fun b hb => hro b (hh b hb), hF⟩
theorem ent_le {X : Cx} {s s' : Slots} {own own' : Own} (fz rest : Own) (hp : own.Perm (fz ++ rest)) (hs : SubF fz s s') (ho : OwnLe fz rest own') : Ent X s own s' own' := by
  intro a w R
  obtain ⟨h1, h2, h3, h4⟩ := ok_le R.ok hp ho
  have hFo : ∀ b, Fo X.fr (fz ++ rest) b → Fo X.fr own b := fun b hb => hb.imp id (fun hb => by
    obtain ⟨e, he, rfl⟩ := List.mem_map.1 hb
    exact List.mem_map.2 ⟨e, hp.mem_iff.2 he, rfl⟩)
  refine ⟨fun t => ?_, h2, fun b hb => R.new b (h3 b hb), R.size, R.defs.mono (fun b _ hb => h3 b hb) (fun _ _ _ => rfl), R.kept⟩
  exact (frz_rel h1 (subF_get s' hs t) ((R.tm t).mono (Grow.refl _ _) (fun b _ hb => hFo b hb))).mono (Grow.refl _ _) (fun b _ hb => h4 b hb)
theorem awp_le {X : Cx} {s s' : Slots} {own own' : Own} {Q : Post} {x : AC} (fz rest : Own) (hp : own.Perm (fz ++ rest)) (hs : SubF fz s s') (ho : OwnLe fz rest own') (hk : AWP X x s' own' Q) : AWP X x s own Q :=
  awp_ent (ent_le fz rest hp hs ho) hk
section
variable {X : Cx} {s : Slots} {own : Own} {Q : Post}
theorem awp_cut {ι : Type} {x y : AC} (st : ι → Slots) (ow : ι → Own) (h1 : AWP X x s own (thenQ (fun s own => ∃ i, Ent X s own (st i) (ow i)) Q)) (h2 : ∀ i, AWP X y (st i) (ow i) Q) : AWP X x s own (thenQ (fun s own => AWP X y s own Q) Q) :=
  awp_mono h1 fun e s' own' h => by
    cases e with
    | normal =>
      obtain ⟨i, hi⟩ := h
      exact awp_ent hi (h2 i)
    | _ => exact h
end
end Go.Aw
namespace Go.Aw
section
variable {α β γ : Type} {σ ρ : Type}
def grd (c : Prop) [Decidable c] (x : Option α) : Option α := if c then x else none
theorem grd_pos {c : Prop} [Decidable c] {x : Option α} (h : c) : grd c x = x := if_pos h
theorem grd_some {c : Prop} [Decidable c] {x : Option α} {r : α} (h : grd c x = some r) : c ∧ x = some r := by
  unfold grd at h
  split at h
  · exact ⟨by assumption, h⟩
  · cases h
theorem ite_some {c : Prop} [Decidable c] {x y : Option α} {r : α} (h : (if c then x else y) = some r) : (c ∧ x = some r) ∨ (¬ c ∧ y = some r) := by
  split at h
  · exact .inl ⟨by assumption, h⟩
  · exact .inr ⟨by assumption, h⟩
theorem cnd_some {b : Bool} {x y : Option α} {r : α} (h : (bif b then x else y) = some r) : (b = true ∧ x = some r) ∨ (b = false ∧ y = some r) := by
  cases b
  · exact .inr ⟨rfl, h⟩
  · exact .inl ⟨rfl, h⟩
theorem bnd_some {o : Option β} {f : β → Option α} {r : α} (h : o.bind f = some r) : ∃ a, o = some a ∧ f a = some r := Option.bind_eq_some_iff.1 h
theorem som_inj {a b : α} (h : some a = some b) : a = b := Option.some.inj h
inductive Ou (α β : Type) where
  | brk (a : α)
  | ret (b : β)
def Ou.on (o : Ou α β) (k : α → γ) (j : β → γ) : γ := match o with | .brk a => k a | .ret b => j b
theorem Ou.on_brk {a : α} {k : α → γ} {j : β → γ} : (Ou.brk a : Ou α β).on k j = k a := rfl
theorem Ou.on_ret {b : β} {k : α → γ} {j : β → γ} : (Ou.ret b : Ou α β).on k j = j b := rfl
def iter (body : σ → Option (σ ⊕ ρ)) : Nat → σ → Option ρ
  | 0, _ => none
  | n + 1, s => (body s).bind fun x => match x with | .inl s' => iter body n s' | .inr r => some r
theorem iter_some {body : σ → Option (σ ⊕ ρ)} {n : Nat} {s : σ} {r : ρ} (h : iter body n s = some r) : ∃ m x, n = m + 1 ∧ body s = some x ∧ (match x with | .inl s' => iter body m s' = some r | .inr q => q = r) := by
  cases n with
  | zero => cases h
  | succ m =>
    obtain ⟨x, hx, h⟩ := bnd_some h
    refine ⟨m, x, rfl, hx, ?_⟩
    cases x with
    | inl s' => exact h
    | inr q => exact Option.some.inj h
def mlook [DecidableEq α] (k : α) : List (α × β) → Option β
  | [] => none
  | p :: r => if k = p.1 then some p.2 else mlook k r
def flt (f : α → AV) (l : List α) : List AV := l.flatMap fun x => (f x).cells
theorem flt_nil {f : α → AV} : flt f [] = [] := rfl
theorem flt_cons {f : α → AV} {x : α} {l : List α} : flt f (x :: l) = (f x).cells ++ flt f l := rfl
theorem flt_app {f : α → AV} {l m : List α} : flt f (l ++ m) = flt f l ++ flt f m := by simp [flt]
theorem flt_one {f : α → AV} {x : α} : flt f [x] = (f x).cells := by simp [flt]
theorem flt_len {f : α → AV} {z : Nat} (hf : ∀ x, (f x).cells.length = z) (l : List α) : (flt f l).length = l.length * z := by
  induction l with
  | nil => simp [flt_nil]
  | cons x l ih => simp [flt_cons, hf, ih, Nat.add_mul]; omega
theorem flt_take {f : α → AV} {z : Nat} (hf : ∀ x, (f x).cells.length = z) (l : List α) : List.take (l.length * z) (flt f l) = flt f l := List.take_of_length_le (by rw [flt_len hf]; exact Nat.le_refl _)
theorem flt_get {f : α → AV} {z : Nat} (hf : ∀ x, (f x).cells.length = z) [Inhabited α] (l : List α) (i o c : Nat) (hi : i < l.length) (hc : o + c ≤ z) : List.take c (List.drop (i * z + o) (flt f l)) = List.take c (List.drop o (f l[i]!).cells) := by
  induction l generalizing i with
  | nil => simp at hi
  | cons x l ih =>
    cases i with
    | zero =>
      rw [List.getElem!_cons_zero, Nat.zero_mul, Nat.zero_add, flt_cons]
      rw [List.drop_append_of_le_length (by rw [hf]; omega), List.take_append_of_le_length (by rw [List.length_drop, hf]; omega)]
    | succ i =>
      have := ih i (by simpa using hi)
      simp only [List.getElem!_cons_succ]
      rw [← this, flt_cons, show (i + 1) * z + o = (f x).cells.length + (i * z + o) by rw [hf, Nat.add_mul]; omega, List.drop_append, Nat.add_sub_cancel_left, List.drop_of_length_le (by omega), List.nil_append]
theorem flt_set {f : α → AV} {z : Nat} (hf : ∀ x, (f x).cells.length = z) [Inhabited α] (l : List α) (i o c : Nat) (ys : List AV) (y : α) (hi : i < l.length) (hy : List.take o (f l[i]!).cells ++ ys ++ List.drop (o + c) (f l[i]!).cells = (f y).cells) (hc : o + c ≤ z) :
    List.take (i * z + o) (flt f l) ++ ys ++ List.drop (i * z + o + c) (flt f l) = flt f (l.set i y) := by
  induction l generalizing i with
  | nil => simp at hi
  | cons x l ih =>
    cases i with
    | zero =>
      rw [List.getElem!_cons_zero] at hy
      rw [Nat.zero_mul, Nat.zero_add, List.set_cons_zero, flt_cons, flt_cons]
      rw [← hy, List.take_append_of_le_length (by rw [hf]; omega), List.drop_append_of_le_length (by rw [hf]; omega)]
      simp only [List.append_assoc]
    | succ i =>
      rw [List.getElem!_cons_succ] at hy
      have := ih i (by simpa using hi) hy
      simp only [flt_cons, List.set_cons_succ]
      rw [← this, show (i + 1) * z + o = (f x).cells.length + (i * z + o) by rw [hf, Nat.add_mul]; omega, show (f x).cells.length + (i * z + o) + c = (f x).cells.length + (i * z + o + c) by omega]
      rw [List.take_append, List.drop_append, Nat.add_sub_cancel_left, Nat.add_sub_cancel_left, List.take_of_length_le (by omega), List.drop_of_length_le (by omega)]
      simp
theorem flt_rep {f : α → AV} (x : α) (n : Nat) (zs : List AV) (h : (f x).cells = zs) : (List.replicate n zs).flatten = flt f (List.replicate n x) := by
  induction n with
  | zero => rfl
  | succ n ih => simp [List.replicate_succ, flt_cons, h, ih]
theorem map_flat {f : α → AV} {l : List α} : (l.map f).flatMap AV.cells = flt f l := by simp [flt, List.flatMap_map]
theorem get_map {f : α → AV} [Inhabited α] {l : List α} {i : Nat} (h : i < l.length) : (l.map f).getD i .any = f l[i]! := by simp [List.getD, h]
theorem take_map {f : α → β} {l : List α} {n : Nat} : (l.map f).take n = (l.take n).map f := by simp
theorem drop_map {f : α → β} {l : List α} {n : Nat} : (l.map f).drop n = (l.drop n).map f := by simp
end
def accV (key : Nat) (bo : Option Nat) (n z : Nat) : AV := match bo with | none => .nil | some b => .row key b 0 n z
def accO (key : Nat) (bo : Option Nat) (cs : List AV) (own : Own) : Own := match bo with | none => own | some b => (key, b, .cells cs) :: own
theorem accV_none {k n z : Nat} : accV k none n z = .nil := rfl
theorem accV_some {k b n z : Nat} : accV k (some b) n z = .row k b 0 n z := rfl
theorem accO_none {k : Nat} {cs : List AV} {own : Own} : accO k none cs own = own := rfl
theorem accO_some {k b : Nat} {cs : List AV} {own : Own} : accO k (some b) cs own = (k, b, .cells cs) :: own := rfl
theorem accO_app {k : Nat} {bo : Option Nat} {cs : List AV} {l m : Own} : accO k bo cs l ++ m = accO k bo cs (l ++ m) := by cases bo <;> rfl
theorem accV_cells {k n z : Nat} {bo : Option Nat} : (accV k bo n z).cells = [accV k bo n z] := by cases bo <;> rfl
theorem accV_stor {k n z : Nat} {bo : Option Nat} : (accV k bo n z).stor = true := by cases bo <;> rfl
theorem fillA_cacc {zs : List AV} {off sz k n z : Nat} {bo : Option Nat} {l : List (Nat × Nat × AV)} : fillA zs ((off, sz, accV k bo n z) :: l) = if (accV k bo n z).cells.length = sz ∧ off + sz ≤ zs.length ∧ (accV k bo n z).stor = true then fillA (zs.take off ++ (accV k bo n z).cells ++ zs.drop (off + sz)) l else none := by rfl
theorem find_acc {k k' b : Nat} {bo : Option Nat} {cs : List AV} {own : Own} (h : k ≠ k') : Own.find (accO k bo cs own) k' b = own.find k' b := by
  cases bo
  · rfl
  · simp only [accO, Own.find, if_neg h]
theorem put_acc {k k' : Nat} {ob : Ob} {bo : Option Nat} {cs : List AV} {own : Own} (h : k ≠ k') : Own.put (accO k bo cs own) k' ob = accO k bo cs (own.put k' ob) := by
  cases bo
  · rfl
  · simp only [accO, Own.put, if_neg h]
theorem drop_acc {k k' : Nat} {bo : Option Nat} {cs : List AV} {own : Own} (h : k ≠ k') : Own.drop (accO k bo cs own) k' = accO k bo cs (own.drop k') := by
  cases bo
  · rfl
  · simp only [accO, Own.drop, if_neg h]
theorem drop_nil {k : Nat} : Own.drop [] k = [] := rfl
theorem OwnLe.acc {fz : Own} {k k' : Nat} {bo : Option Nat} {cs ys : List AV} {l m : Own} (hc : FrzP fz cs ys) (h : OwnLe fz l m) : OwnLe fz (accO k bo cs l) (accO k' bo ys m) := by
  cases bo with
  | none => exact h
  | some b => exact .cells hc h
theorem OwnLe.accDrop {fz : Own} {k : Nat} {bo : Option Nat} {cs : List AV} {l m : Own} (h : OwnLe fz l m) : OwnLe fz (accO k bo cs l) m := by
  cases bo with
  | none => exact h
  | some b => exact .drop h
theorem frz_lacc {fz : Own} {k k' n n' z : Nat} {bo : Option Nat} (h : n = n') : Frz fz (accV k bo n z) (accV k' bo n' z) := by
  subst h
  cases bo with
  | none => exact .keep _
  | some b => exact .lrow ..
theorem frz_row {fz : Own} {α : Type} {f : α → AV} {z k b n : Nat} {l : List α} (hf : ∀ x, (f x).cells.length = z) (hfz : fz.find k b = some (.cells (flt f l))) (hn : n = l.length) : Frz fz (.row k b 0 n z) (.sl (l.map f)) := by
  subst hn
  have hget : ∀ (i : Nat) (x : AV) (j : Nat) (y : AV), (l.map f)[i]? = some x → x.cells[j]? = some y → (flt f l)[0 + i * z + j]? = some y := by
    clear hfz
    intro i x j y hx hy
    rw [Nat.zero_add]
    induction l generalizing i with
    | nil => simp at hx
    | cons a l ih =>
      cases i with
      | zero =>
        simp at hx
        subst hx
        have := (List.getElem?_eq_some_iff.1 hy).1
        rw [Nat.zero_mul, Nat.zero_add, flt_cons, List.getElem?_append_left this]
        exact hy
      | succ i =>
        have := ih i (by simpa using hx)
        rw [flt_cons, List.getElem?_append_right (by rw [hf, Nat.add_mul]; omega), hf]
        rw [show (i + 1) * z + j - z = i * z + j by rw [Nat.add_mul]; omega]
        exact this
  refine .row k b 0 l.length z (flt f l) (l.map f) (fun j => (flt f l).getD j .any) hfz (by simp) (fun i x hx => ?_) (fun i x j y hx hy => ?_) (fun i x j y hx hy => ?_)
  · obtain ⟨a, _, rfl⟩ := List.mem_map.1 (List.mem_of_getElem? hx)
    exact hf a
  · have := hget i x j y hx hy
    rw [this]
    rw [Nat.zero_add] at this
    simp [List.getD, this]
  · have := hget i x j y hx hy
    rw [Nat.zero_add] at this
    simp [List.getD, this]
    exact .keep _
theorem perm_cc {a b : Nat × Nat × Ob} {l : Own} : List.Perm (a :: b :: l) (b :: a :: l) := List.Perm.swap ..
theorem perm_ca {a : Nat × Nat × Ob} {k : Nat} {bo : Option Nat} {cs : List AV} {l : Own} : List.Perm (a :: accO k bo cs l) (accO k bo cs (a :: l)) := by
  cases bo
  · exact List.Perm.refl _
  · exact List.Perm.swap ..
theorem perm_ac {b : Nat × Nat × Ob} {k : Nat} {bo : Option Nat} {cs : List AV} {l : Own} : List.Perm (accO k bo cs (b :: l)) (b :: accO k bo cs l) := perm_ca.symm
theorem perm_ha {k : Nat} {bo : Option Nat} {cs : List AV} {l m : Own} (h : List.Perm l m) : List.Perm (accO k bo cs l) (accO k bo cs m) := by
  cases bo
  · exact h
  · exact h.cons _
theorem subF_nil {fz : Own} {s : Slots} : SubF fz s [] = True := rfl
theorem subF_cons {fz : Own} {s s' : Slots} {t : Nat} {x : AV} : SubF fz s ((t, x) :: s') = (Frz fz (s.get t) x ∧ SubF fz s s') := rfl
section
variable {X : Cx} {Q : Post} {K : Slots → Own → Prop} {d : Option Nat} {r : List AO} {s : Slots} {own : Own} {β : Type} {f : β → AV}
end
attribute [go_sem] Int.cast_ofNat_Int false_implies true_implies List.length_map List.length_drop List.length_set
attribute [go_sem] fillA_cacc accV_none accV_some accO_none accO_some accO_app accV_cells accV_stor find_acc put_acc drop_acc drop_nil map_flat take_map drop_map flt_nil
attribute [go_sem] mlkA_mapv mlkO_some
end Go.Aw
namespace Go.Aw
section
variable {X : Cx} {Q : Post} {s : Slots} {own : Own}
end
theorem str_len {l : List (List UInt8)} : (flt AV.str l).length = l.length := by rw [flt_len (z := 1) (fun _ => rfl)]; omega
theorem str_take {l : List (List UInt8)} : List.take l.length (flt AV.str l) = flt AV.str l := List.take_of_length_le (by rw [str_len]; exact Nat.le_refl _)
theorem str_snoc {l : List (List UInt8)} {x : List UInt8} : flt AV.str l ++ [AV.str x] = flt AV.str (l ++ [x]) := by rw [flt_app, flt_one]; rfl
theorem str_app {l m : List (List UInt8)} : flt AV.str l ++ flt AV.str m = flt AV.str (l ++ m) := flt_app.symm
theorem str_all {l : List (List UInt8)} : (∀ x, x ∈ l.map AV.str → x.cells.length = 1) = True := eq_true (fun x hx => by obtain ⟨a, _, rfl⟩ := List.mem_map.1 hx; rfl)
theorem str_get {l : List (List UInt8)} {i : Nat} (h : i < l.length) : List.take 1 (List.drop i (flt AV.str l)) = [AV.str l[i]!] := by
  have := flt_get (f := AV.str) (z := 1) (fun _ => rfl) l i 0 1 h (by omega)
  simp only [Nat.mul_one, Nat.add_zero] at this
  rw [this]; rfl
theorem str_set {l : List (List UInt8)} {i : Nat} {v : List UInt8} (h : i < l.length) : List.take i (flt AV.str l) ++ [AV.str v] ++ List.drop (i + 1) (flt AV.str l) = flt AV.str (l.set i v) := by
  have := flt_set (f := AV.str) (z := 1) (fun _ => rfl) l i 0 1 [AV.str v] v h rfl (by omega)
  simpa only [Nat.mul_one, Nat.add_zero] using this
theorem int_len {k : IntKind} {l : List Int} : (flt (AV.int k) l).length = l.length := by rw [flt_len (z := 1) (fun _ => rfl)]; omega
theorem int_take {k : IntKind} {l : List Int} : List.take l.length (flt (AV.int k) l) = flt (AV.int k) l := List.take_of_length_le (by rw [int_len]; exact Nat.le_refl _)
theorem int_snoc {k : IntKind} {l : List Int} {x : Int} : flt (AV.int k) l ++ [AV.int k x] = flt (AV.int k) (l ++ [x]) := by rw [flt_app, flt_one]; rfl
theorem int_app {k : IntKind} {l m : List Int} : flt (AV.int k) l ++ flt (AV.int k) m = flt (AV.int k) (l ++ m) := flt_app.symm
theorem int_all {k : IntKind} {l : List Int} : (∀ x, x ∈ l.map (AV.int k) → x.cells.length = 1) = True := eq_true (fun x hx => by obtain ⟨a, _, rfl⟩ := List.mem_map.1 hx; rfl)
theorem int_get {k : IntKind} {l : List Int} {i : Nat} (h : i < l.length) : List.take 1 (List.drop i (flt (AV.int k) l)) = [AV.int k l[i]!] := by
  have := flt_get (f := AV.int k) (z := 1) (fun _ => rfl) l i 0 1 h (by omega)
  simp only [Nat.mul_one, Nat.add_zero] at this
  rw [this]; rfl
theorem int_set {k : IntKind} {l : List Int} {i : Nat} {v : Int} (h : i < l.length) : List.take i (flt (AV.int k) l) ++ [AV.int k v] ++ List.drop (i + 1) (flt (AV.int k) l) = flt (AV.int k) (l.set i v) := by
  have := flt_set (f := AV.int k) (z := 1) (fun _ => rfl) l i 0 1 [AV.int k v] v h rfl (by omega)
  simpa only [Nat.mul_one, Nat.add_zero] using this
theorem int_rep {k : IntKind} {n : Nat} {x : Int} : (List.replicate n [AV.int k x]).flatten = flt (AV.int k) (List.replicate n x) := flt_rep _ _ _ rfl
theorem bool_len {l : List Bool} : (flt AV.bool l).length = l.length := by rw [flt_len (z := 1) (fun _ => rfl)]; omega
theorem bool_take {l : List Bool} : List.take l.length (flt AV.bool l) = flt AV.bool l := List.take_of_length_le (by rw [bool_len]; exact Nat.le_refl _)
theorem bool_snoc {l : List Bool} {x : Bool} : flt AV.bool l ++ [AV.bool x] = flt AV.bool (l ++ [x]) := by rw [flt_app, flt_one]; rfl
theorem bool_all {l : List Bool} : (∀ x, x ∈ l.map AV.bool → x.cells.length = 1) = True := eq_true (fun x hx => by obtain ⟨a, _, rfl⟩ := List.mem_map.1 hx; rfl)
theorem bool_get {l : List Bool} {i : Nat} (h : i < l.length) : List.take 1 (List.drop i (flt AV.bool l)) = [AV.bool l[i]!] := by
  have := flt_get (f := AV.bool) (z := 1) (fun _ => rfl) l i 0 1 h (by omega)
  simp only [Nat.mul_one, Nat.add_zero] at this
  rw [this]; rfl
theorem bool_set {l : List Bool} {i : Nat} {v : Bool} (h : i < l.length) : List.take i (flt AV.bool l) ++ [AV.bool v] ++ List.drop (i + 1) (flt AV.bool l) = flt AV.bool (l.set i v) := by
  have := flt_set (f := AV.bool) (z := 1) (fun _ => rfl) l i 0 1 [AV.bool v] v h rfl (by omega)
  simpa only [Nat.mul_one, Nat.add_zero] using this
attribute [go_sem] str_len str_take str_snoc str_app str_all str_get str_set int_len int_take int_snoc int_app int_all int_get int_set int_rep bool_len bool_take bool_snoc bool_all bool_get bool_set get_map
end Go.Aw
namespace Go.Aw
section
variable {X : Cx} {Q : Post} {K : Slots → Own → Prop} {d : Option Nat} {r : List AO} {s : Slots} {own : Own} {α : Type} {f : α → AV}
theorem acc_len {bo : Option Nat} {l : List α} (h : bo = none → l = []) : bo = none → l.length = 0 := fun hb => by rw [h hb]; rfl
theorem lenA_acc {k n z : Nat} {bo : Option Nat} (h : bo = none → n = 0) : lenA X Q K d r s own (accV k bo n z) = goA X Q K d r s own (.int .i64 n) := by
  cases bo with
  | none => rw [h rfl]; rfl
  | some b => rfl
theorem elems_mono {sz : Nat} {y : AV} {G G' : Nat → List AV → Prop} (h : elemsOf own sz y G) (hg : ∀ m c, G m c → G' m c) : elemsOf own sz y G' := by
  unfold elemsOf at h ⊢
  split at h
  · exact hg _ _ h
  · exact ⟨h.1, hg _ _ h.2⟩
  · refine ⟨h.1, ?_⟩
    have h2 := h.2
    clear h
    split at h2
    · exact ⟨h2.1, hg _ _ h2.2⟩
    · exact h2
  · exact h
theorem app_acc {t sz bytes k n : Nat} {bo : Option Nat} {y : AV} {l : List α} {G : Slots → Own → Prop} (f : α → AV) (own' : Own) (hbo : bo = none → l = []) (hn : n = l.length) (hz : ∀ x, (f x).cells.length = sz) (hf : ∀ b, bo = some b → own.find k b = some (.cells (flt f l)))
    (hd : ∀ b, bo = some b → own.drop k = own') (hd' : bo = none → own = own')
    (hy : elemsOf own sz y fun m cells => (l.length + m) * bytes ≤ 140737488355328 ∧ l.length + m ≤ 140737488355328 ∧ ∀ bo', (bo' = none → l.length + m = 0) → G ((t, accV t bo' (l.length + m) sz) :: s) (accO t bo' (flt f l ++ cells) own')) : appA own (some t) sz bytes (accV k bo n sz) y s G := by
  subst hn
  cases bo with
  | none =>
    have hl := hbo rfl
    subst hl
    have := hd' rfl
    subst this
    change elemsOf own sz y (fun m cells => m * bytes ≤ 140737488355328 ∧ m ≤ 140737488355328 ∧ (m = 0 → G ((t, .nil) :: s) own) ∧ (0 < m → ∀ b, G ((t, .row t b 0 m sz) :: s) ((t, b, .cells cells) :: own)))
    refine elems_mono hy ?_
    rintro m c ⟨h1, h2, h3⟩
    simp only [List.length_nil, Nat.zero_add, flt_nil, List.nil_append] at h1 h2 h3
    refine ⟨h1, h2, fun h0 => ?_, fun _ b => h3 (some b) (fun h => by cases h)⟩
    have := h3 none (fun _ => h0)
    simpa [accV, accO] using this
  | some b =>
    have h1 := hf b rfl
    have h2 := hd b rfl
    subst h2
    refine ⟨rfl, rfl, ?_⟩
    rw [h1]
    refine elems_mono hy ?_
    rintro m c ⟨h1, h2, h3⟩
    refine ⟨by rw [flt_len hz]; exact Nat.le_refl _, h1, h2, fun b' => ?_⟩
    have := h3 (some b') (fun h => by cases h)
    rw [flt_take hz]
    exact this
theorem frz_acc {fz : Own} {z k n : Nat} {bo : Option Nat} {l : List α} (hf : ∀ x, (f x).cells.length = z) (hbo : bo = none → l = []) (hfz : ∀ b, bo = some b → fz.find k b = some (.cells (flt f l))) (hn : n = l.length) : Frz fz (accV k bo n z) (.sl (l.map f)) := by
  cases bo with
  | none => rw [hbo rfl]; exact .nil
  | some b => exact frz_row hf (hfz b rfl) hn
end
end Go.Aw
namespace Go.Aw
end Go.Aw
namespace Go.Aw
theorem leaves_nil {own : Own} : Leaves own (fun o => o = []) := ⟨[], List.nil_sublist _, rfl⟩
end Go.Aw
namespace Go.Aw
attribute [go_sem] argS
theorem rg {X : Cx} {ops : List AO} {s s' : Slots} {own own' : Own} {Q : Post}
    (e : ∀ (K : Slots → Own → Prop) (Q' : Post), runA X Q' K ops s own = K s' own' := by intro K Q'; simp -implicitDefEqProofs (disch := first | omega | rfl) only [go_sem, simprocAttr] <;> rfl)
    (h : Q .normal s' own') : AWP X (.reg ops) s own Q := awp_reg fun K Q' hK _ => (e K Q') ▸ hK _ _ h
theorem rgf {X : Cx} {ops : List AO} {s s' : Slots} {own own' : Own} {Q : Post} {ps : Prop} (hf : ps) (h : Q .normal s' own')
    (e : ps → ∀ (K : Slots → Own → Prop) (Q' : Post), runA X Q' K ops s own = K s' own' := by intro hf K Q'; simp -implicitDefEqProofs (disch := first | omega | rfl) only [go_sem, simprocAttr, hf] <;> rfl) : AWP X (.reg ops) s own Q := awp_reg fun K Q' hK _ => (e hf K Q') ▸ hK _ _ h
theorem rtp {s : Slots} {own : Own} {rs : List RV} {R : Res → Own → Prop}
    (e : resK s own rs (fun vs => Leaves own (R (.val (resV vs)))) := by simp -implicitDefEqProofs (disch := first | omega | rfl) only [go_sem, simprocAttr] <;> first | exact leaves_none (by first | rfl | simp) | exact leaves_nil) : retQ rs R .ret s own := e
end Go.Aw
namespace Go.Aw
theorem ent_le' {X : Cx} {s s' : Slots} {own own' : Own} (fz rest all : Own) (he : fz ++ rest = all) (hp : own.Perm all) (hs : SubF fz s s') (ho : OwnLe fz rest own') : Ent X s own s' own' := ent_le fz rest (he ▸ hp) hs ho
theorem awp_le' {X : Cx} {s s' : Slots} {own own' : Own} {Q : Post} {x : AC} (fz rest all : Own) (he : fz ++ rest = all) (hp : own.Perm all) (hs : SubF fz s s') (ho : OwnLe fz rest own') (hk : AWP X x s' own' Q) : AWP X x s own Q := awp_le fz rest (he ▸ hp) hs ho hk
theorem awp_regD' {X : Cx} {s : Slots} {own : Own} {Q : Post} {t : DT} (A B all : Own) (hm : X.P.follows .mixedOrders = true) (he : A ++ B = all) (hp : own.Perm all) (h : ∀ (K : Slots → Own → Prop), (∀ s own, Q .normal s own → K s own) → runT X K A t s B) : AWP X (.regD t) s own Q := awp_regD A B hm (he ▸ hp) h
end Go.Aw
namespace Go.Aw
end Go.Aw
namespace Go.Aw
end Go.Aw
namespace Go.Aw
section
variable {X : Cx} {K : Slots → Own → Prop} {A B : Own} {s : Slots} {q : Bool} {d : Option Nat} {op : AOp} {r m : DT}
def agP1 (X : Cx) (K : Slots → Own → Prop) (A : Own) (q : Bool) (t : Nat) (b : Bool) (d : Option Nat) (op : AOp) (r : DT) (s : Slots) (B : Own) (g : AV) : Prop :=
  match g with
  | .bool b' => if b' = b then altT X K A q op.isPure d op r s B else skT X K A q d r s B
  | .tup [] => skT X K A q d r s B
  | _ => runT X K A (.alt q ⟨d, some (t, b), op⟩ r .stop) s B
theorem runT_ag1 {t : Nat} {b : Bool} : runT X K A (.alt q ⟨d, some (t, b), op⟩ r .stop) s B = agP1 X K A q t b d op r s B (s.get t) := by
  unfold agP1
  split
  · rename_i b' h
    rw [runT_aguard h, runT_alt1, runT_stop, and_true]
  · rename_i h
    rw [runT_aundef h, runT_stop, and_true]
  · rfl
theorem agP1_bool {t : Nat} {b b' : Bool} : agP1 X K A q t b d op r s B (.bool b') = if b' = b then altT X K A q op.isPure d op r s B else skT X K A q d r s B := by rfl
theorem agP1_undef {t : Nat} {b : Bool} : agP1 X K A q t b d op r s B (.tup []) = skT X K A q d r s B := by rfl
end
attribute [go_sem] runT_ag1 agP1_bool agP1_undef
theorem frz_ptr {fz : Own} {k b o : Nat} {cs : List AV} (hf : fz.find k b = some (.cells cs)) : Frz fz (.ptr k b o) (.ref (cs.drop o)) :=
  .ptr k b o cs (cs.drop o) (fun j => cs.getD (o + j) .any) hf (fun j y h => by
    rw [List.getElem?_drop] at h
    simp [List.getD, h]) (fun j y h => by
    rw [List.getElem?_drop] at h
    simp only [List.getD, h, Option.getD_some]
    exact .keep _)
end Go.Aw
namespace Go.Aw
section
variable {X : Cx} {Q : Post} {K : Slots → Own → Prop} {r : List AO} {s : Slots} {own : Own} {β : Type} {f : β → AV}
end
end Go.Aw
namespace Go.Aw
end Go.Aw
namespace Go.Aw
end Go.Aw
namespace Go.Aw
section
variable {X : Cx} {Q : Post} {K : Slots → Own → Prop} {d : Option Nat} {r : List AO} {s : Slots} {own : Own} {β : Type} {f : β → AV}
end
end Go.Aw
namespace Go.Aw
theorem cells_mapv {k b : Nat} : (AV.mapv k b).cells = [.mapv k b] := by rfl
theorem stor_mapv {k b : Nat} : (AV.mapv k b).stor = true := by rfl
theorem cells_refv {l : List AV} : (AV.ref l).cells = [.ref l] := by rfl
theorem stor_refv {l : List AV} : (AV.ref l).stor = true := by rfl
theorem cells_fnv {f : Fn} {a b : List AV} : (AV.fn f a b).cells = [.fn f a b] := by rfl
theorem stor_fnv {f : Fn} {a b : List AV} : (AV.fn f a b).stor = true := by rfl
attribute [go_sem] cells_mapv stor_mapv cells_refv stor_refv cells_fnv stor_fnv
end Go.Aw
namespace Go.Aw
section
variable {X : Cx} {s : Slots} {own : Own} {P : Program}
theorem Rep.leave {a : Act} {w : World} {o : Own} (R : Rep X s own a w) (ho : (o.map fun e => e.2).Sublist (own.map fun e => e.2)) : Rep X s o a w := by
  refine R.reown o (fun e he => ?_) ?_
  · obtain ⟨e0, h0, h1⟩ := List.mem_map.1 (ho.subset (List.mem_map.2 ⟨e, he, rfl⟩))
    exact ⟨e0, h0, by rw [h1], by rw [h1]; exact ObLe.refl _⟩
  · have h1 := ho.map (fun p : Nat × Ob => p.1)
    simp only [List.map_map] at h1
    exact h1.nodup R.ok.nodup
def AV.fixed : AV → Bool
  | .int _ _ | .bool _ | .str _ | .ptr _ _ _ => true
  | _ => false
theorem rel_fixed {F F' : Nat → Prop} {w w' : World} {v : Value} {x : AV} (h : Rel F w v x) (hx : x.fixed = true) : Rel F' w' v x := by
  cases h <;> first
    | exact .int _ _
    | exact .bool _
    | exact .str _
    | exact .ptr _ _ _
    | (simp [AV.fixed] at hx; done)
theorem AV.rel_cval {F : Nat → Prop} {w : World} {v : Value} {x : AV} (h : x.cval = some v) : Rel F w v x ∧ v.oneCell' = true := by
  cases x <;> simp only [AV.cval, Option.some.injEq, reduceCtorEq] at h
  · subst h; exact ⟨.int _ _, rfl⟩
  · subst h; exact ⟨.bool _, rfl⟩
  · subst h; exact ⟨.str _, rfl⟩
theorem rel_cvals {F : Nat → Prop} {w : World} : ∀ (cs : List AV) (l : List Value), cvals cs = some l → l.length = cs.length ∧ ∀ (j : Nat) (v : Value) (y : AV), l[j]? = some v → cs[j]? = some y → Rel F w v y ∧ v.oneCell' = true
  | [], l, h => by
    simp only [cvals, Option.some.injEq] at h
    subst h
    exact ⟨rfl, fun j v y hj _ => by simp at hj⟩
  | c :: cs, l, h => by
    simp only [cvals, Option.bind_eq_some_iff, Option.map_eq_some_iff] at h
    obtain ⟨u, hu, l', hl', rfl⟩ := h
    obtain ⟨h1, h2⟩ := rel_cvals cs l' hl'
    refine ⟨by simp [h1], fun j v y hj hy => ?_⟩
    cases j with
    | zero =>
      simp only [List.getElem?_cons_zero, Option.some.injEq] at hj hy
      subst hj; subst hy
      exact AV.rel_cval hu
    | succ j => exact h2 j v y (by simpa using hj) (by simpa using hy)
theorem cval_plain {x : AV} (hx : ∀ cs, x ≠ .agg cs) : cval x = x.cval := by
  cases x <;> first | rfl | exact absurd rfl (hx _)
theorem rel_cval {F : Nat → Prop} {w : World} {v : Value} {x : AV} (h : cval x = some v) : Rel F w v x := by
  cases x with
  | agg cs =>
    obtain ⟨l, hl, rfl⟩ := Option.map_eq_some_iff.1 h
    obtain ⟨h1, h2⟩ := rel_cvals (F := F) (w := w) cs l hl
    refine .agg _ _ (by simpa using h1) (fun j v hv => ?_) (fun j v y hv hy => (h2 j v y (by simpa using hv) hy).1)
    have hlt : j < cs.length := by have := (Array.getElem?_eq_some_iff.1 hv).1; simp at this; omega
    exact (h2 j v _ (by simpa using hv) (List.getElem?_eq_getElem hlt)).2
  | _ => exact (AV.rel_cval ((cval_plain (by simp)).symm.trans h)).1
def DefC (P : Program) (g : FuncId) (args : List AV) (own : Own) (u : FrameMode) (G : FrameMode → Own → Prop) : Prop :=
  ∀ (fr : Nat → Prop) (vs : Array Value) (w : World), vs.size = args.length → (∀ (j : Nat) (v : Value) (y : AV), vs[j]? = some v → args[j]? = some y → Rel (Fo fr own) w v y) → OwnOk fr w own →
    CallsDIn (wideR none) 0 P g vs u w fun e u' w' => ∃ v own', e = .returned v ∧ G u' own' ∧ OwnOk fr w' own' ∧ Grow own.has w w' ∧ ∀ b, own'.has b → own.has b ∨ w.heap.size ≤ b
theorem DefC.mono {g : FuncId} {args : List AV} {u : FrameMode} {G G' : FrameMode → Own → Prop} (h : DefC P g args own u G) (hg : ∀ u o, G u o → G' u o) : DefC P g args own u G' :=
  fun fr vs w h1 h2 h3 => (h fr vs w h1 h2 h3).mono fun _ _ _ ⟨v, o, e1, e2, e3⟩ => ⟨v, o, e1, hg _ _ e2, e3⟩
def flatOp : Op → Bool
  | .move _ | .assign _ | .alloc _ | .box _ _ | .load _ _ | .store _ _ _ | .fieldAddr _ _ _ | .field _ _ _ | .extract _ _ | .typeAssert _ _ _ _ => true
  | _ => false
theorem flat_run {ρ : Operand → Value} {o : Oper} (h : flatOp o.op = true) (w : World) : (∃ v w', (execOp ρ o).run P w = .ok (.value v) w') ∨ (∃ w', (execOp ρ o).run P w = .ok .skip w') ∨ ∃ e w', (execOp ρ o).run P w = .halt e w' := by
  have hv : ∀ (S : Sem Value), (∃ v w', (do pure (.value (← S)) : Sem Next).run P w = .ok (.value v) w') ∨ (∃ w', (do pure (.value (← S)) : Sem Next).run P w = .ok .skip w') ∨ ∃ e w', (do pure (.value (← S)) : Sem Next).run P w = .halt e w' := fun S => by
    cases hS : S.run P w with
    | ok v w' => exact .inl ⟨v, w', by simp [hS]⟩
    | halt e w' => exact .inr (.inr ⟨e, w', by simp [hS]⟩)
  have hu : ∀ (S : Sem Unit), (∃ v w', (do S; pure .skip : Sem Next).run P w = .ok (.value v) w') ∨ (∃ w', (do S; pure .skip : Sem Next).run P w = .ok .skip w') ∨ ∃ e w', (do S; pure .skip : Sem Next).run P w = .halt e w' := fun S => by
    cases hS : S.run P w with
    | ok v w' => exact .inr (.inl ⟨w', by simp [hS]⟩)
    | halt e w' => exact .inr (.inr ⟨e, w', by simp [hS]⟩)
  cases ho : o.op <;> simp only [ho, flatOp, Bool.false_eq_true] at h <;> simp only [execOp, ho]
  all_goals first
    | exact hv _
    | exact hu _
    | exact .inl ⟨_, _, rfl⟩
theorem wpOpsSIn_of {F : Fence} {n : Nat} {ops : Array Oper} {Q : Exit → Act → World → Prop} {Q2 : Exit → Act → List Frame → World → Prop} {cs : List Frame} (hq : ∀ e a w, Q e a w → Q2 e a cs w) :
    ∀ (l : List Nat) (a : Act) (w : World), (∀ i o, i ∈ l → ops[i]? = some o → flatOp o.op = true) → wpOpsIn F n P ops Q l a w → wpOpsSIn F n P ops Q2 l a cs w
  | [], a, w, _, h => hq _ _ _ h
  | i :: rest, a, w, hf, h => by
    have ih := fun a w => wpOpsSIn_of (F := F) (n := n) hq rest a w (fun j o hj => hf j o (List.mem_cons_of_mem _ hj))
    simp only [wpOpsIn] at h
    simp only [wpOpsSIn]
    cases ho : ops[i]? with
    | none =>
      simp only [ho] at h ⊢
      exact ih a w h
    | some o =>
      simp only [ho] at h ⊢
      by_cases hw : Region.wanted o (yielded ops a.tmps) = true
      · simp only [hw, if_true] at h ⊢
        obtain ⟨h1, h2⟩ := h
        refine ⟨h1, ?_⟩
        have hfl := hf i o (List.mem_cons_self ..) ho
        rw [Oper.semAt_eq _ _ _ (fun c hc => by simp [hc, flatOp] at hfl)] at h2
        rcases flat_run (P := P) (ρ := a.eval) hfl w with ⟨v, w', e⟩ | ⟨w', e⟩ | ⟨e', w', e⟩
        · rw [e] at h2 ⊢
          exact ih _ _ h2
        · rw [e] at h2 ⊢
          exact ih _ _ h2
        · rw [e] at h2 ⊢
          cases e' with
          | panic v => exact hq _ _ _ h2
          | _ => exact h2.elim
      · simp only [hw, if_false, Bool.false_eq_true] at h ⊢
        exact ⟨h.1, ih _ _ h.2⟩
def RecOk (u u' : FrameMode) (x : AV) : Prop :=
  (u = .returning ∧ u' = .returning ∧ x = .lit .nilIface) ∨ ∃ t y v, cval y = some v ∧ u = .panicking [{ v := .iface t v, recovered := false }] ∧ u' = .panicking [{ v := .iface t v, recovered := true }] ∧ x = .ifc t y
def isRec (o : Oper) : Bool := match o.op with
  | .call c => (match c.callee with | .builtin .recover => true | _ => false) && c.args.size == 0
  | _ => false
def compR (P : Program) (n : Nat) : Code → Option (Nat × List AO × AC)
  | .seq (.region _ ops false) c => match ops.toList with
    | o :: os => match o.dst with
      | some t => if isRec o && o.guard.isNone && decide (t < n) && os.all (fun o => flatOp o.op) then (compOps P n ops os).bind fun l => (compCode P n c).map fun a => (t, l, a) else none
      | none => none
    | [] => none
  | _ => none
def REnd (X : Cx) (G : FrameMode → Own → Prop) (u : FrameMode) : Post := fun e s o => (e = .normal ∨ e = .ret) ∧ ∃ s' o', Ent X s o s' o' ∧ Leaves o' (G u)
theorem def_intro {g : FuncId} {fn : Func} {t : Nat} {l : List AO} {ac : AC} (n : Nat) (hf : P.funcs[g]? = some fn) (hnt : fn.ntmps = n) (hc : fn.body.bind (compR P n) = some (t, l, ac)) (hres : fn.results.toList = [])
    {args : List AV} {own : Own} {u u' : FrameMode} {x : AV} {G : FrameMode → Own → Prop} (hn : args.length ≤ n) (hu : RecOk u u' x)
    (h : ∀ X : Cx, X.P = P → X.n = n → X.defs = [] → X.rd = none → ∀ (K : Slots → Own → Prop) (Q' : Post), (∀ s' own', AWP X ac s' own' (REnd X G u') → K s' own') → runA X Q' K l ((t, x) :: argS 0 args) own) :
    DefC P g args own u G := by
  subst hnt
  obtain ⟨c, hb, hc⟩ := Option.bind_eq_some_iff.1 hc
  unfold compR at hc
  split at hc
  case h_2 => cases hc
  rename_i id ops c2
  split at hc
  case h_2 => cases hc
  rename_i o os hops
  split at hc
  case h_2 => cases hc
  rename_i t' hdst
  split at hc
  case isFalse => cases hc
  rename_i hcond
  simp only [Bool.and_eq_true, decide_eq_true_eq, List.all_eq_true] at hcond
  obtain ⟨⟨⟨hrec, hgd⟩, htn⟩, hflat⟩ := hcond
  obtain ⟨l', hl', hc⟩ := Option.bind_eq_some_iff.1 hc
  obtain ⟨ac', hac, hc⟩ := Option.map_eq_some_iff.1 hc
  cases hc
  intro fr vs w hl hr hok
  let X : Cx := ⟨P, fr, w, own.has, fn.ntmps, [], none, true⟩
  have R0 : Rep X (argS 0 args) own { tmps := vs ++ Array.replicate (fn.ntmps - vs.size) undef, defers := [] } w := by
    refine ⟨fun t => ?_, hok, fun b hb => .inl hb, by simp [X]; omega, ⟨fun _ => rfl, [], rfl, List.nodup_nil, by simp⟩, Grow.refl _ _⟩
    rw [argS_get, if_pos (Nat.zero_le _), Nat.sub_zero]
    rcases Nat.lt_or_ge t args.length with hlt | hge
    · have h1 : vs[t]? = some vs[t] := Array.getElem?_eq_getElem (by omega)
      have h2 : args[t]? = some args[t] := List.getElem?_eq_getElem hlt
      have := hr t _ _ h1 h2
      simp only [Array.getD_eq_getD_getElem?, Array.getElem?_append_left (show t < vs.size by omega), h1, Option.getD_some, List.getD, h2]
      exact this
    · simp only [List.getD, List.getElem?_eq_none hge, Option.getD_none]
      exact .any _
  refine callsDIn_of_wpSIn hf hb trivial fun c₀ cs hmode => ?_
  refine wpSIn_seq (wpSIn_region ?_)
  have hsz : ops.size = os.length + 1 := by rw [← Array.length_toList, hops]; rfl
  have ho : ∀ j : Nat, ops[j]? = (o :: os)[j]? := fun j => by rw [← hops, Array.getElem?_toList]
  rw [hsz, List.range_eq_range', List.range'_succ]
  have h0 : ops[0]? = some o := ho 0
  have go : ∀ (v : Value) (u'' : FrameMode), u'' = u' → (∀ F w, Rel F w v x) → wpOpsSIn (wideR none) 0 P ops (Exit.thenS (c2.wpSIn (wideR none) 0 P (bodyPostS P fn c₀ cs fun e u' w' => ∃ v own', e = .returned v ∧ G u' own' ∧ OwnOk fr w' own' ∧ Grow own.has w w' ∧ ∀ b, own'.has b → own.has b ∨ w.heap.size ≤ b)) (bodyPostS P fn c₀ cs fun e u' w' => ∃ v own', e = .returned v ∧ G u' own' ∧ OwnOk fr w' own' ∧ Grow own.has w w' ∧ ∀ b, own'.has b → own.has b ∨ w.heap.size ≤ b))
      (List.range' (0 + 1) os.length) (Act.put { tmps := vs ++ Array.replicate (fn.ntmps - vs.size) undef, defers := [] } o.dst v) ({ c₀ with mode := u'' } :: cs) w := by
    intro v u'' hu'' hv
    subst hu''
    have R1 := R0.put (some t) (by simpa [X] using htn) (hv (Fo fr own) w)
    rw [hdst]
    have hrun := runA_sound (X := X) (Q := fun _ _ _ => False) (K := fun s' own' => AWP X ac s' own' (REnd X G u'')) ops os 1 l (fun j => by rw [ho, Nat.add_comm]; rfl) hl' _ own _ w R1 (h X rfl rfl rfl rfl _ _ (fun _ _ h => h))
    refine wpOpsSIn_of (Q := liftQ X (thenQ (fun s' own' => AWP X ac s' own' (REnd X G u'')) fun _ _ _ => False)) ?_ _ _ _ ?_ hrun
    · rintro e a1 w1 ⟨s1, own1, hq, R2⟩
      cases e with
      | normal =>
        refine wpSIn_of_wpIn rfl (wpIn_mono (hq c2 hac a1 w1 R2) ?_)
        rintro e a2 w2 ⟨s2, own2, ⟨he, s3, o3, hE, o2, hsub, hG⟩, R2'⟩
        have R3 := hE _ _ R2'
        have R4 := R3.leave hsub
        have hd : a2.defers = [] := R3.defs.1 rfl
        have hrs : (results fn a2.tmps).run P w2 = .ok (.tuple #[]) w2 := results_run fn a2.tmps w2 [] (by rw [hres]; rfl)
        have hR : ∃ v own', Ending.returned (.tuple #[]) = .returned v ∧ G u'' own' ∧ OwnOk fr w2 own' ∧ Grow own.has w w2 ∧ ∀ b, own'.has b → own.has b ∨ w.heap.size ≤ b := ⟨_, o2, rfl, hG, R4.ok, R4.kept, R4.new⟩
        rcases he with rfl | rfl
        · exact ⟨hd, u'', rfl, _, hrs, hR⟩
        · exact ⟨hd, u'', rfl, _, hrs, hR⟩
      | _ => exact hq.elim
    · intro i o' hi ho'
      rw [List.mem_range'_1] at hi
      rw [ho] at ho'
      obtain ⟨j, rfl⟩ : ∃ j, i = j + 1 := ⟨i - 1, by omega⟩
      exact hflat o' (List.mem_of_getElem? (by simpa using ho'))
  have hw : Region.wanted o (yielded ops (vs ++ Array.replicate (fn.ntmps - vs.size) undef)) = true := by
    have hg : o.guard = none := by simpa using hgd
    simp [Region.wanted, hg]
  have hx : (execOp (Act.eval { tmps := vs ++ Array.replicate (fn.ntmps - vs.size) undef, defers := [] }) o).run P w = .ok .recover w := by
    unfold isRec at hrec
    split at hrec
    · rename_i c hop
      simp only [Bool.and_eq_true] at hrec
      obtain ⟨h1, h2⟩ := hrec
      split at h1
      · rename_i hcal
        simp only [execOp, hop, resolve, hcal]
        rfl
      · cases h1
    · cases hrec
  simp only [wpOpsSIn, h0]
  refine ⟨fun _ _ => trivial, ?_⟩
  rw [if_pos hw, hx]
  rcases hu with ⟨rfl, rfl, rfl⟩ | ⟨ti, y, v, hy, rfl, rfl, rfl⟩
  · have hrd : recoverD (c₀ :: cs) = none := by simp [recoverD, hmode]
    simp only [hrd]
    have := go .nilIface .returning rfl (fun F w => .lit _)
    have hc0 : ({ c₀ with mode := .returning } : Frame) = c₀ := by rw [← hmode]
    rw [hc0] at this
    exact this
  · have hrd : recoverD (c₀ :: cs) = some (.iface ti v, { c₀ with mode := .panicking [{ v := .iface ti v, recovered := true }] } :: cs) := by simp [recoverD, hmode]
    simp only [hrd]
    exact go (.iface ti v) _ rfl (fun F w => .ifc _ _ _ (rel_cval hy))
inductive CD where
  | last (a : AC)
  | seq (a : AC) (d : CD)
  | dfr (l : List AO) (x : Od) (d : CD)
def dfrOf (P : Program) (n : Nat) : Code → Option (List AO × Od)
  | .region _ ops false => match ops.toList.reverse with
    | o :: r => match o.op with
      | .defer c => match c.callee with
        | .value x => if c.args.size == 0 && o.guard.isNone && o.dst.isNone then (compOps P n ops r.reverse).map fun l => (l, od x) else none
        | _ => none
      | _ => none
    | [] => none
  | _ => none
def compD (P : Program) (n : Nat) : Code → Option CD
  | .seq a b => match dfrOf P n a with
    | some (l, x) => (compD P n b).map (.dfr l x)
    | none => (compCode P n a).bind fun x => (compD P n b).map (.seq x)
  | c => (compCode P n c).map .last
def Dfd (X : Cx) (g : FuncId) (args : List AV) : Prop :=
  ∃ as bs : Array Value, X.defs = [{ target := .fn (.func g) bs, args := as }] ∧ okF X.P g = true ∧ (as ++ bs).size = args.length ∧ ∀ (j : Nat) (v : Value) (y : AV), (as ++ bs)[j]? = some v → args[j]? = some y → ∀ F w, Rel F w v y
def DEnd (rs : List RV) (R : Res → Own → Prop) (X : Cx) (e : Exit) (s : Slots) (own : Own) : Prop :=
  (X.defs = [] ∧ retQ rs R e s own) ∨ ∃ g args, Dfd X g args ∧ match e with
    | .normal | .ret => DefC X.P g args own .returning fun u o => settle u = .returning ∧ resK s o rs fun vs => Leaves o (R (.val (resV vs)))
    | .panic c => DefC X.P g args own (.panicking c) fun u o => settle u = .returning ∧ resK s o rs fun vs => Leaves o (R (.val (resV vs)))
    | _ => False
theorem res_end {X : Cx} {s : Slots} {own : Own} {a : Act} {w : World} {fn : Func} {rs : List RV} {R : Res → Own → Prop} {own0 : Own} {w0 : World} (Rp : Rep X s own a w) (hres : compRes X.P fn.results.toList = some rs) (h0 : X.own0 = own0.has) (hw : X.w0 = w0)
    (h : resK s own rs fun vs => Leaves own (R (.val (resV vs)))) : ∃ v, (results fn a.tmps).run X.P w = .ok v w ∧ EndsA X.fr own0 R w0 (.returned v) w := by
  obtain ⟨vs', hrun, xs, ⟨o, ho, hK⟩, hvl, hrel⟩ := res_list Rp fn.results.toList rs hres _ h
  have hRo := Rp.leave ho
  have hle : ∀ b, Fo X.fr o b → Fo X.fr own b := fun b hb => by
    rcases hb with hb | hb
    · exact .inl hb
    · have h1 := ho.map (fun p : Nat × Ob => p.1)
      simp only [List.map_map] at h1
      exact .inr (h1.subset hb)
  have hrel : ∀ (j : Nat) (v : Value) (y : AV), vs'[j]? = some v → xs[j]? = some y → Rel (Fo X.fr o) w v y := fun j v y hj hy => (hrel j v y hj hy).mono (Grow.refl _ _) (fun b _ hb => hle b hb)
  subst hw
  refine ⟨_, results_run fn a.tmps w vs' hrun, .val (resV xs), o, hK, ⟨_, rfl, ?_⟩, hRo.ok, by rw [← h0]; exact hRo.kept, fun b hb => by rw [← h0]; exact hRo.new b hb⟩
  clear hrun hK
  match vs', xs, hvl, hrel with
  | [], [], _, _ => exact .tup _ _ rfl (by simp)
  | [v], [x], _, hrel => exact hrel 0 v x rfl rfl
  | v :: v' :: vs', x :: x' :: xs, hvl, hrel => exact .tup _ _ (by simpa using hvl) (fun j u y hj hy => hrel j u y (by simpa using hj) hy)
theorem dend {X : Cx} {s : Slots} {own : Own} {a : Act} {w : World} {fn : Func} {rs : List RV} {R : Res → Own → Prop} {own0 : Own} {e : Exit} (Rp : Rep X s own a w) (hnr : X.nr = true) (hres : compRes X.P fn.results.toList = some rs) (h0 : X.own0 = own0.has) (h : DEnd rs R X e s own) :
    bodyPostM (wideR none) 0 X.P fn (EndsA X.fr own0 R X.w0) e a w := by
  have hd := Rp.defs.1 hnr
  rcases h with ⟨hd0, hq⟩ | ⟨g, args, ⟨as, bs, hdef, hok, hsz, hrel⟩, hq⟩
  · have ret : resK s own rs (fun vs => Leaves own (R (.val (resV vs)))) → LeavesInM (wideR none) 0 X.P fn a.tmps (EndsA X.fr own0 R X.w0) a.defers .returning w := fun hq => by
      rw [hd, hd0]
      exact res_end Rp hres h0 rfl hq
    cases e with
    | normal => exact ret hq
    | ret => exact ret hq
    | panic ch =>
      obtain ⟨o, ho, hK⟩ := hq
      have hRo := Rp.leave ho
      show LeavesInM _ _ _ _ _ _ _ _ _
      rw [hd, hd0]
      exact ⟨.pan ch, o, hK, rfl, hRo.ok, by rw [← h0]; exact hRo.kept, fun b hb => by rw [← h0]; exact hRo.new b hb⟩
    | _ => exact hq.elim
  · have key : ∀ u : FrameMode, u ≠ .run → DefC X.P g args own u (fun u o => settle u = .returning ∧ resK s o rs fun vs => Leaves o (R (.val (resV vs)))) → LeavesInM (wideR none) 0 X.P fn a.tmps (EndsA X.fr own0 R X.w0) a.defers u w := fun u hu hq => by
      rw [hd, hdef]
      refine ⟨hu, .inr ⟨(fun hh => by cases hh), .func g, bs, g, as ++ bs, rfl, run_callFunc hok _ _, fun _ _ => trivial, ?_⟩⟩
      refine (hq X.fr (as ++ bs) w hsz (fun j v y hj hy => hrel j v y hj hy _ _) Rp.ok).mono ?_
      rintro e' u' w' ⟨v, own', rfl, ⟨hs, hr⟩, h1, h2, h3⟩
      have R2 := Rp.after h1 h2 h3
      show LeavesInM _ _ _ _ _ _ [] (settle u') w'
      rw [hs]
      exact res_end R2 hres h0 rfl hr
    cases e with
    | normal => exact key _ (by simp) hq
    | ret => exact key _ (by simp) hq
    | panic ch => exact key _ (by simp) hq
    | _ => exact hq.elim
def DWP (rs : List RV) (R : Res → Own → Prop) (X : Cx) (cd : CD) (s : Slots) (own : Own) : Prop :=
  ∀ (fn : Func) (own0 : Own), compRes X.P fn.results.toList = some rs → X.own0 = own0.has → ∀ c, compD X.P X.n c = some cd → ∀ a w, Rep X s own a w →
    c.wpIn (wideR X.rd) 0 X.P (bodyPostM (wideR none) 0 X.P fn (EndsA X.fr own0 R X.w0)) a w
theorem compD_last {n : Nat} {c : Code} {ac : AC} (h : compD P n c = some (.last ac)) : compCode P n c = some ac := by
  cases c <;> simp only [compD] at h
  case seq a b =>
    split at h
    · obtain ⟨_, _, h⟩ := Option.map_eq_some_iff.1 h; cases h
    · obtain ⟨_, _, h⟩ := Option.bind_eq_some_iff.1 h
      obtain ⟨_, _, h⟩ := Option.map_eq_some_iff.1 h
      cases h
  all_goals
    obtain ⟨_, h1, h⟩ := Option.map_eq_some_iff.1 h
    cases h
    exact h1
theorem compD_seq {n : Nat} {c : Code} {ac : AC} {d : CD} (h : compD P n c = some (.seq ac d)) : ∃ a b, c = .seq a b ∧ compCode P n a = some ac ∧ compD P n b = some d := by
  cases c <;> simp only [compD] at h
  case seq a b =>
    split at h
    · obtain ⟨_, _, h⟩ := Option.map_eq_some_iff.1 h; cases h
    · obtain ⟨_, h1, h⟩ := Option.bind_eq_some_iff.1 h
      obtain ⟨_, h2, h⟩ := Option.map_eq_some_iff.1 h
      cases h
      exact ⟨a, b, rfl, h1, h2⟩
  all_goals
    obtain ⟨_, h1, h⟩ := Option.map_eq_some_iff.1 h
    cases h
theorem compD_dfr {n : Nat} {c : Code} {l : List AO} {x : Od} {d : CD} (h : compD P n c = some (.dfr l x d)) : ∃ a b, c = .seq a b ∧ dfrOf P n a = some (l, x) ∧ compD P n b = some d := by
  cases c <;> simp only [compD] at h
  case seq a b =>
    split at h
    · rename_i h1
      obtain ⟨_, h2, h⟩ := Option.map_eq_some_iff.1 h
      cases h
      exact ⟨a, b, rfl, h1, h2⟩
    · obtain ⟨_, h1, h⟩ := Option.bind_eq_some_iff.1 h
      obtain ⟨_, h2, h⟩ := Option.map_eq_some_iff.1 h
      cases h
  all_goals
    obtain ⟨_, h1, h⟩ := Option.map_eq_some_iff.1 h
    cases h
theorem dwp_last {X : Cx} {rs : List RV} {R : Res → Own → Prop} {ac : AC} {s : Slots} {own : Own} (hnr : X.nr = true) (h : AWP X ac s own (DEnd rs R X)) : DWP rs R X (.last ac) s own := by
  intro fn own0 hres h0 c hc a w Rp
  refine wpIn_mono (h c (compD_last hc) a w Rp) ?_
  rintro e a' w' ⟨s', own', hq, R'⟩
  exact dend R' hnr hres h0 hq
theorem dwp_seq {X : Cx} {rs : List RV} {R : Res → Own → Prop} {ac : AC} {d : CD} {s : Slots} {own : Own} (hnr : X.nr = true) (h : AWP X ac s own (thenQ (fun s own => DWP rs R X d s own) (DEnd rs R X))) : DWP rs R X (.seq ac d) s own := by
  intro fn own0 hres h0 c hc a w Rp
  obtain ⟨c1, c2, rfl, hc1, hc2⟩ := compD_seq hc
  refine wpIn_seq (wpIn_mono (h c1 hc1 a w Rp) ?_)
  rintro e a' w' ⟨s', own', hq, R'⟩
  cases e with
  | normal => exact hq fn own0 hres h0 c2 hc2 a' w' R'
  | _ => exact dend R' hnr hres h0 hq
theorem runA_soundT {X : Cx} {Q : Post} {K : Slots → Own → Prop} (ops : Array Oper) (W : Exit → Act → World → Prop) (tl : List Nat) (hQ : ∀ c a w, liftQ X Q (.panic c) a w → W (.panic c) a w)
    (hK : ∀ s own a w, K s own → Rep X s own a w → wpOpsIn (wideR X.rd) 0 X.P ops W tl a w) : ∀ (l : List Oper) (k : Nat) (aos : List AO), (∀ j, j < l.length → l[j]? = ops[k + j]?) → compOps X.P X.n ops l = some aos →
    ∀ s own a w, Rep X s own a w → runA X Q K aos s own → wpOpsIn (wideR X.rd) 0 X.P ops W (List.range' k l.length ++ tl) a w
  | [], k, aos, hl, hc, s, own, a, w, R, h => by
    simp only [compOps, Option.some.injEq] at hc
    subst hc
    exact hK s own a w h R
  | o :: l, k, aos, hl, hc, s, own, a, w, R, h => by
    simp only [compOps, Option.bind_eq_some_iff, Option.map_eq_some_iff] at hc
    obtain ⟨ao, hao, aos', haos, rfl⟩ := hc
    obtain ⟨hcp, hd, hdn⟩ := compO_op hao
    have h0 : ops[k]? = some o := by simpa using (hl 0 (by simp)).symm
    have ih := fun s own a w => runA_soundT ops W tl hQ hK l (k + 1) aos' (fun j hj => by have := hl (j + 1) (by simpa using hj); simpa [Nat.add_assoc, Nat.add_comm 1 j] using this) haos s own a w
    simp only [List.length_cons, List.range'_succ, List.cons_append, wpOpsIn, h0]
    simp only [runA] at h
    rcases guard_sound R ops o X.n ao hao h with ⟨hw, h⟩ | ⟨hw, h⟩
    · rw [if_pos hw]
      rw [hd] at h
      exact op_sound R o hdn ao.op hcp h _ _ (fun s' own' a' w' hK hR => ih s' own' a' w' hR hK) hQ
    · rw [if_neg (by simp [hw])]
      rw [hd] at h
      exact ⟨fun _ _ => trivial, ih _ _ _ _ (R.put o.dst hdn (rel_undef _ _)) h⟩
def DfrK (rs : List RV) (R : Res → Own → Prop) (X : Cx) (x : Od) (d : CD) (s : Slots) (own : Own) : Prop :=
  ∃ g first cap, x.ev s = .fn (.func g) first cap ∧ okF X.P g = true ∧ (first ++ cap).all AV.fixed = true ∧
    ∀ X' : Cx, X'.P = X.P → X'.n = X.n → X'.rd = none → X'.nr = true → Dfd X' g (first ++ cap) → DWP rs R X' d s own
theorem dwp_dfr {X : Cx} {rs : List RV} {R : Res → Own → Prop} {l : List AO} {x : Od} {d : CD} {s : Slots} {own : Own} (hnr : X.nr = true) (hd : X.defs = []) (hrd : X.rd = none)
    (h : ∀ (K : Slots → Own → Prop) (Q' : Post), (∀ s' own', DfrK rs R X x d s' own' → K s' own') → runA X Q' K l s own) : DWP rs R X (.dfr l x d) s own := by
  intro fn own0 hres h0 c hc a w Rp
  obtain ⟨c1, c2, rfl, hc1, hc2⟩ := compD_dfr hc
  unfold dfrOf at hc1
  split at hc1
  case h_2 => cases hc1
  rename_i id ops
  split at hc1
  case h_2 => cases hc1
  rename_i o r hops
  split at hc1
  case h_2 => cases hc1
  rename_i cl hop
  split at hc1
  case h_2 => cases hc1
  rename_i xo hcal
  split at hc1
  case isFalse => cases hc1
  rename_i hcond
  simp only [Bool.and_eq_true, beq_iff_eq] at hcond
  obtain ⟨⟨hargs, hgd⟩, hdst⟩ := hcond
  obtain ⟨l', hl, hc1⟩ := Option.map_eq_some_iff.1 hc1
  cases hc1
  have hlist : ops.toList = r.reverse ++ [o] := by
    have := congrArg List.reverse hops
    simpa using this
  have hsz : ops.size = r.length + 1 := by rw [← Array.length_toList, hlist]; simp
  refine wpIn_seq (wpIn_region ?_)
  have hrg : List.range ops.size = List.range' 0 r.reverse.length ++ [r.length] := by
    rw [hsz, List.range_succ, List.range_eq_range', List.length_reverse]
  rw [hrg]
  have hat : ∀ j : Nat, ops[j]? = (r.reverse ++ [o])[j]? := fun j => by rw [← hlist, Array.getElem?_toList]
  have hlast : ops[r.length]? = some o := by rw [hat]; simp
  refine runA_soundT (X := X) (Q := fun _ _ _ => False) (K := DfrK rs R X (od xo) d) ops _ [r.length] (fun c a w ⟨_, _, hq, _⟩ => hq.elim) ?_ r.reverse 0 l (fun j hj => by rw [hat, Nat.zero_add, List.getElem?_append_left hj]) hl s own a w Rp (h _ _ (fun _ _ h => h))
  rintro s1 own1 a1 w1 ⟨g, first, cap, hev, hok, hfix, hk⟩ R1
  simp only [wpOpsIn, hlast]
  have hgn : o.guard = none := by simpa using hgd
  have hdn : o.dst = none := by simpa using hdst
  rw [if_pos (by simp [Region.wanted, hgn])]
  refine ⟨fun _ _ => trivial, ?_⟩
  have hrd' : (wideR X.rd).round = none := hrd
  rw [hrd', Oper.semAt_none]
  have hv := R1.od xo
  rw [hev] at hv
  generalize hep : a1.eval xo = v at hv
  cases hv with
  | fn _ as bs _ _ hla hlb hra hrb =>
    have hargs' : cl.args.map a1.eval = #[] := by
      have : cl.args = #[] := Array.size_eq_zero_iff.1 hargs
      rw [this]; simp
    have hx : (execOp a1.eval o).run X.P w1 = .ok (.defer { target := .fn (.func g) bs, args := as }) w1 := by
      simp only [execOp, hop, resolve, hcal, hep, hargs']
      simp [Deferred.ofValue]
    rw [hx, Oper.uponIn_defer, hdn]
    let X' : Cx := { X with defs := { target := .fn (.func g) bs, args := as } :: X.defs }
    have hdfd : Dfd X' g (first ++ cap) := by
      refine ⟨as, bs, by simp [X', hd], hok, by simp [hla, hlb], fun j v y hj hy F w => ?_⟩
      have hfy : y.fixed = true := List.all_eq_true.1 hfix y (List.mem_of_getElem? hy)
      rcases Nat.lt_or_ge j as.size with hlt | hge
      · rw [Array.getElem?_append_left hlt] at hj
        rw [List.getElem?_append_left (by omega)] at hy
        exact rel_fixed (hra j v y hj hy) hfy
      · rw [Array.getElem?_append_right hge] at hj
        rw [List.getElem?_append_right (by omega), ← hla] at hy
        exact rel_fixed (hrb _ v y hj hy) hfy
    have R2 : Rep X' s1 own1 { a1 with defers := { target := .fn (.func g) bs, args := as } :: a1.defers } w1 := by
      refine ⟨R1.tm, R1.ok, R1.new, R1.size, ⟨fun _ => ?_, [], ?_, List.nodup_nil, by simp⟩, R1.kept⟩
      · show _ :: a1.defers = _ :: X.defs
        rw [R1.defs.1 hnr]
      · show _ :: a1.defers = [] ++ (_ :: X.defs)
        rw [R1.defs.1 hnr]; rfl
    have hfin := hk X' rfl rfl hrd hnr hdfd fn own0 hres h0 c2 hc2 _ w1 R2
    exact hfin
theorem fn_introD {f : FuncId} {fn : Func} {cd : CD} {rs : List RV} (n : Nat) (hf : P.funcs[f]? = some fn) (hnt : fn.ntmps = n) (hc : fn.body.bind (compD P n) = some cd) (hres : compRes P fn.results.toList = some rs)
    {args : List AV} {own : Own} {R : Res → Own → Prop} (hn : args.length ≤ n) (h : ∀ X : Cx, X.P = P → X.n = n → X.defs = [] → X.rd = none → X.nr = true → DWP rs R X cd (argS 0 args) own) : FnC P f args own R := by
  subst hnt
  obtain ⟨c, hb, hc⟩ := Option.bind_eq_some_iff.1 hc
  intro fr vs w hl hr hok
  let X : Cx := ⟨P, fr, w, own.has, fn.ntmps, [], none, true⟩
  have R0 : Rep X (argS 0 args) own { tmps := vs ++ Array.replicate (fn.ntmps - vs.size) undef, defers := [] } w := by
    refine ⟨fun t => ?_, hok, fun b hb => .inl hb, by simp [X]; omega, ⟨fun _ => rfl, [], rfl, List.nodup_nil, by simp⟩, Grow.refl _ _⟩
    rw [argS_get, if_pos (Nat.zero_le _), Nat.sub_zero]
    rcases Nat.lt_or_ge t args.length with hlt | hge
    · have h1 : vs[t]? = some vs[t] := Array.getElem?_eq_getElem (by omega)
      have h2 : args[t]? = some args[t] := List.getElem?_eq_getElem hlt
      have := hr t _ _ h1 h2
      simp only [Array.getD_eq_getD_getElem?, Array.getElem?_append_left (show t < vs.size by omega), h1, Option.getD_some, List.getD, h2]
      exact this
    · simp only [List.getD, List.getElem?_eq_none hge, Option.getD_none]
      exact .any _
  exact (callsIn_wideR (r := none) (n := 0)).1 (callsIn_of_wp_marks hf hb trivial (h X rfl rfl rfl rfl rfl fn own hres rfl c hc _ w R0))
def PanC (P : Program) (f : FuncId) (args : List AV) (q : Res) : Prop := FnC P f args [] fun r o => r = q ∧ o = []
def pv (x : AV) : Value := (cval x).getD undef
def resP {α β : Type} (T : TypeId) (a : α → AV) (b : β → AV) : α ⊕ β → Res
  | .inl x => .val (a x)
  | .inr y => .pan [{ v := .iface T (pv (b y)), recovered := false }]
theorem then_pan {n : Slots → Own → Prop} {Q : Post} {s : Slots} {own : Own} {c : List PanicEntry} (h : Q (.panic c) s own) : thenQ n Q (.panic c) s own := h
theorem blk_pan {id : Nat} {Q : Post} {s : Slots} {own : Own} {c : List PanicEntry} (h : Q (.panic c) s own) : blockQ id Q (.panic c) s own := h
theorem pnp {s : Slots} {own : Own} {rs : List RV} {c : List PanicEntry} {x : Res} (h : Res.pan c = x := by rfl) : retQ rs (fun q o => q = x ∧ o = []) (.panic c) s own := ⟨[], List.nil_sublist _, h, rfl⟩
theorem leaves_res {own : Own} {x y : Res} (h : y = x) : Leaves own (fun o => y = x ∧ o = []) := ⟨[], List.nil_sublist _, h, rfl⟩
theorem rtv {s : Slots} {own : Own} {rs : List RV} {x : Res}
    (e : resK s own rs (fun vs => Leaves own (fun o => Res.val (resV vs) = x ∧ o = [])) := by simp -implicitDefEqProofs (disch := first | omega | rfl) only [go_sem, simprocAttr] <;> first | exact leaves_res (by first | rfl | simp) | exact leaves_res rfl) : retQ rs (fun q o => q = x ∧ o = []) .ret s own := e
theorem call_pan {X : Cx} {Q : Post} {K : Slots → Own → Prop} {d : Option Nat} {r : List AO} {s : Slots} {own : Own} {P : Program} {f : FuncId} {args : List AV} {c : List PanicEntry} (hP : X.P = P) (h : PanC P f args (.pan c)) (hk : Q (.panic c) s own) : CallS X Q K d r s own f args :=
  call_at (hand := []) (rest := own) hP h (List.Perm.refl _) (by rintro _ _ ⟨rfl, rfl⟩; exact hk)
theorem sum_l {α β γ : Type} {f : α → Option γ} {g : β → Option γ} {x : α} {r : γ} (h : Sum.elim f g (.inl x) = some r) : f x = some r := h
theorem sum_r {α β γ : Type} {f : α → Option γ} {g : β → Option γ} {x : β} {r : γ} (h : Sum.elim f g (.inr x) = some r) : g x = some r := h
theorem dend_no {X : Cx} {rs : List RV} {R : Res → Own → Prop} {e : Exit} {s : Slots} {own : Own} (hd : X.defs = []) (h : retQ rs R e s own) : DEnd rs R X e s own := .inl ⟨hd, h⟩
theorem dend_ret {X : Cx} {rs : List RV} {R : Res → Own → Prop} {s : Slots} {own : Own} {P : Program} {g : FuncId} {args : List AV} (hP : X.P = P) (hD : Dfd X g args) (h : DefC P g args own .returning fun u o => settle u = .returning ∧ resK s o rs fun vs => Leaves o (R (.val (resV vs)))) : DEnd rs R X .ret s own := by
  subst hP
  exact .inr ⟨g, args, hD, h⟩
theorem dend_pan {X : Cx} {rs : List RV} {R : Res → Own → Prop} {s : Slots} {own : Own} {P : Program} {g : FuncId} {args : List AV} {c : List PanicEntry} (hP : X.P = P) (hD : Dfd X g args) (h : DefC P g args own (.panicking c) fun u o => settle u = .returning ∧ resK s o rs fun vs => Leaves o (R (.val (resV vs)))) : DEnd rs R X (.panic c) s own := by
  subst hP
  exact .inr ⟨g, args, hD, h⟩
theorem dfr_end {X : Cx} {G : FrameMode → Own → Prop} {s : Slots} {own : Own} {u : FrameMode} (s' : Slots) (o' : Own) (hE : Ent X s own s' o') (h : G u o') : REnd X G u .normal s own :=
  ⟨.inl rfl, s', o', hE, o', List.Sublist.refl _, h⟩
end
end Go.Aw
