/- Regions that draw their order. Operations that only read what nobody in the region writes are taken first, in a fixed order; the others must stand alone when their turn comes. -/
import Derived.Test.YtkmnhomehejppaaAwCode
import Derived.OrdersIn
set_option linter.unusedSimpArgs false
set_option linter.unusedVariables false
set_option linter.deprecated false
namespace Go.Aw

section
variable {F : Fence} {n : Nat} {P : Program} {ops : Array Oper} {Q : Exit → Act → World → Prop} {md : Region.Mode} {S : World → Prop}

/-- whatever comes up next; each world on the way meets 'S' -/
def anyS (F : Fence) (n : Nat) (P : Program) (md : Region.Mode) (ops : Array Oper) (Q : Exit → Act → World → Prop) (S : World → Prop) : Nat → Array Bool → Act → World → Prop
  | 0, listed, a, w => Region.ready md ops listed = [] ∧ Q .normal a w
  | fuel + 1, listed, a, w => (Region.ready md ops listed = [] → Q .normal a w) ∧
    ∀ i ∈ Region.ready md ops listed, wpOpIn F n P ops Q i (fun a' w' => S w' ∧ anyS F n P md ops Q S fuel (listed.setIfInBounds i true) a' w') a w

theorem anyS_mono {S' : World → Prop} (hS : ∀ w, S w → S' w) : ∀ (fuel : Nat) (listed : Array Bool) (a : Act) (w : World), anyS F n P md ops Q S fuel listed a w → anyS F n P md ops Q S' fuel listed a w
  | 0, _, _, _, h => h
  | fuel + 1, _, _, _, h => ⟨h.1, fun i hi => wpOpIn_mono (fun a w h2 => ⟨hS w h2.1, anyS_mono hS fuel _ a w h2.2⟩) (h.2 i hi)⟩

theorem any_of_S : ∀ (fuel : Nat) (listed : Array Bool) (a : Act) (w : World), anyS F n P md ops Q S fuel listed a w → wpAnyIn F n P md ops Q fuel listed a w
  | 0, _, _, _, h => h
  | fuel + 1, _, _, _, h => ⟨h.1, fun i hi => wpOpIn_mono (fun a w h2 => any_of_S fuel _ a w h2.2) (h.2 i hi)⟩

/-- in each world that meets 'S' the operation gives 'v', and does nothing else -/
def GivesS (P : Program) (ops : Array Oper) (S : World → Prop) (o : Oper) (v : Value) (a : Act) : Prop :=
  (Region.wanted o (yielded ops a.tmps) = true ∧ ∀ w, S w → (execOp a.eval o).run P w = .ok (.value v) w) ∨ (Region.wanted o (yielded ops a.tmps) = false ∧ v = undef)

theorem GivesS.same {o : Oper} {v : Value} {a a' : Act} (h : GivesS P ops S o v a) (he : execOp a'.eval o = execOp a.eval o) (hw : Region.wanted o (yielded ops a'.tmps) = Region.wanted o (yielded ops a.tmps)) : GivesS P ops S o v a' := by
  unfold GivesS
  rw [he, hw]
  exact h

theorem GivesS.op {i : Nat} {o : Oper} {v : Value} {a : Act} (hF : ∀ f, F.fn f) (hi : ops[i]? = some o) (hnd : ∀ c, o.op ≠ .defer c) (h : GivesS P ops S o v a) {K : Act → World → Prop} {w : World} (hS : S w) (hK : K (a.put o.dst v) w) :
    wpOpIn F n P ops Q i K a w := by
  unfold wpOpIn
  simp only [hi]
  rcases h with ⟨hw, hv⟩ | ⟨hw, rfl⟩
  · rw [if_pos hw]
    refine ⟨fun f _ => hF f, ?_⟩
    rw [Oper.semAt_eq _ _ _ hnd, hv w hS]
    exact hK
  · rw [if_neg (by simp [hw])]
    exact ⟨fun f _ => hF f, hK⟩

theorem op_put {j : Nat} {oi oj : Oper} {v : Value} (hF : ∀ f, F.fn f) (hj : ops[j]? = some oj) (hap : oi.apart ops oj = true)
    (hsi : ∀ cs b, oi.op ≠ .select cs b) (hsj : ∀ cs b, oj.op ≠ .select cs b) (hdj : ∀ c, oj.op ≠ .defer c) (hQ : ∀ c a w, Q (.panic c) (a.put oi.dst v) w → Q (.panic c) a w)
    {K : Act → World → Prop} {a : Act} {w : World} (hy : GivesS P ops S oi v a) (h : wpOpIn F n P ops Q j K (a.put oi.dst v) w) :
    wpOpIn F n P ops Q j (fun a' w' => GivesS P ops S oi v a' ∧ K (a'.put oi.dst v) w') a w := by
  obtain ⟨h1, h2, h3⟩ := Oper.apart_spec hap
  have keep : ∀ u, GivesS P ops S oi v (a.put oj.dst u) := fun u => hy.same (execOp_put oi hsi a oj.dst u h3) (wanted_put oi a oj.dst u h3)
  have next : ∀ u w', K ((a.put oi.dst v).put oj.dst u) w' → GivesS P ops S oi v (a.put oj.dst u) ∧ K ((a.put oj.dst u).put oi.dst v) w' := fun u w' hK =>
    ⟨keep u, by rw [← Act.put_comm a v u h2]; exact hK⟩
  unfold wpOpIn at h ⊢
  simp only [hj] at h ⊢
  rw [wanted_put oj a oi.dst v h1] at h
  by_cases hw : Region.wanted oj (yielded ops a.tmps) = true
  · rw [if_pos hw] at h ⊢
    refine ⟨fun f _ => hF f, ?_⟩
    have h := h.2
    rw [Oper.semAt_eq _ _ _ hdj, execOp_put oj hsj a oi.dst v h1] at h
    rw [Oper.semAt_eq _ _ _ hdj]
    cases hr : (execOp a.eval oj).run P w with
    | ok x w' =>
      rw [hr] at h
      cases x with
      | value u => exact next u _ h
      | skip => exact next _ _ h
      | defer d =>
        refine ⟨hy.same ?_ ?_, ?_⟩
        · exact execOp_put oi hsi { a with defers := d :: a.defers } oj.dst undef h3
        · exact wanted_put oi { a with defers := d :: a.defers } oj.dst undef h3
        · rw [← Act.put_comm _ v undef h2, ← Act.put_defers]
          exact h
      | enter f args =>
        refine ⟨h.1, h.2.mono fun e w'' he => ?_⟩
        cases e with
        | returned u => exact next u _ he
        | panicked c => exact hQ _ _ _ he
        | outgrown => exact he
      | row row args => exact ⟨h.1, h.2.mono fun u w'' he => next u _ he⟩
      | round l f tmps assign body =>
        refine ⟨h.1, h.2.mono fun e w'' he => ?_⟩
        cases e with
        | returned u => exact next u _ he
        | panicked c => exact hQ _ _ _ he
        | outgrown => exact he
      | _ => exact h.elim
    | halt x w' =>
      rw [hr] at h
      cases x with
      | panic u => exact hQ _ _ _ h
      | _ => exact h.elim
  · rw [if_neg hw] at h ⊢
    exact ⟨fun f _ => hF f, next _ _ h.2⟩

theorem anyS_first {i : Nat} {oi : Oper} {v : Value} (hF : ∀ f, F.fn f) (hi : ops[i]? = some oi) (hsel : ∀ (j : Nat) (o : Oper), ops[j]? = some o → (∀ cs b, o.op ≠ .select cs b) ∧ ∀ c, o.op ≠ .defer c)
    (hQ : ∀ c a w, Q (.panic c) (a.put oi.dst v) w → Q (.panic c) a w) :
    ∀ (fuel : Nat) (listed : Array Bool) (a : Act) (w : World),
      (∀ j oj, ops[j]? = some oj → j ≠ i → listed.getD j true = false → (∀ e ∈ oj.after, Region.binds md e = true → e.on ≠ i) → oi.apart ops oj = true) →
      i ∈ Region.ready md ops listed → GivesS P ops S oi v a → S w →
      anyS F n P md ops Q S fuel (listed.setIfInBounds i true) (a.put oi.dst v) w → anyS F n P md ops Q S (fuel + 1) listed a w := by
  intro fuel
  induction fuel with
  | zero =>
    intro listed a w _ hr hy hS H
    refine ⟨fun h => (by rw [h] at hr; cases hr), fun j hj => ?_⟩
    by_cases hji : j = i
    · rw [hji]
      exact hy.op hF hi (hsel i oi hi).2 hS ⟨hS, H⟩
    · have := ready_mono hj hji
      rw [H.1] at this
      cases this
  | succ fuel ih =>
    intro listed a w hfree hr hy hS H
    refine ⟨fun h => (by rw [h] at hr; cases hr), fun j hj => ?_⟩
    by_cases hji : j = i
    · rw [hji]
      exact hy.op hF hi (hsel i oi hi).2 hS ⟨hS, H⟩
    · have h1 := H.2 j (ready_mono hj hji)
      obtain ⟨hjun, oj, hoj, hall⟩ := mem_ready.1 hj
      have hnot : ∀ e ∈ oj.after, Region.binds md e = true → e.on ≠ i := fun e he hb heq => by
        have h1 := hall e he hb
        have h0 := (mem_ready.1 hr).1
        rw [heq] at h1
        rcases Nat.lt_or_ge i listed.size with h' | h'
        · simp [h'] at h0 h1; rw [h0] at h1; cases h1
        · simp [Array.getElem?_eq_none h'] at h1
      have h2 := op_put hF hoj (hfree j oj hoj hji hjun hnot) (hsel i oi hi).1 (hsel j oj hoj).1 (hsel j oj hoj).2 hQ hy h1
      have hfree' : ∀ k ok, ops[k]? = some ok → k ≠ i → (listed.setIfInBounds j true).getD k true = false → (∀ e ∈ ok.after, Region.binds md e = true → e.on ≠ i) → oi.apart ops ok = true := fun k ok hk hki hun hno => by
        refine hfree k ok hk hki ?_ hno
        by_cases hjk : j = k
        · subst hjk; exact hjun
        · rw [getD_set_ne true hjk] at hun; exact hun
      refine wpOpIn_mono (fun a' w' h3 => ⟨h3.2.1, ih (listed.setIfInBounds j true) a' w' hfree' (ready_mono hr (Ne.symm hji)) h3.1 h3.2.1 ?_⟩) h2
      rw [Array.setIfInBounds_comm _ _ hji]
      exact h3.2.2
end

/-- the blocks of 'A' are another's for a while -/
def Cx.hide (X : Cx) (A : Own) : Cx := { X with fr := fun b => X.fr b ∨ A.has b }
theorem hide_P {X : Cx} {A : Own} : (X.hide A).P = X.P := rfl

theorem has_append {A B : Own} {b : Nat} : Own.has (A ++ B) b ↔ A.has b ∨ B.has b := by
  unfold Own.has
  rw [List.map_append, List.mem_append]

/-- a region in the order of 'eager'. 'A': what nobody in the region writes. -/
def runD (X : Cx) (K : Slots → Own → Prop) (A : Own) : List (Bool × AO) → Slots → Own → Prop
  | [], s, B => K s (A ++ B)
  | (al, o) :: r, s, B => guardP o.g s
      (if o.op.isPure then o.op.step s (if al then A ++ B else A) (fun x => runD X K A r (putS o.d x s) B)
       else opA (X.hide A) (fun _ _ _ => False) o.d o.op s B (runD X K A r))
      (runD X K A r (putS o.d (.tup []) s) B)

section
variable {X : Cx} {s : Slots} {A B own : Own} {a : Act} {w : World}

theorem fo_hide {b : Nat} : Fo (X.hide B).fr A b ↔ Fo X.fr (A ++ B) b := by
  unfold Fo
  rw [has_append]
  constructor
  · rintro ((h | h) | h)
    · exact .inl h
    · exact .inr (.inr h)
    · exact .inr (.inl h)
  · rintro (h | h | h)
    · exact .inl (.inl h)
    · exact .inr h
    · exact .inl (.inr h)

theorem Rep.swap (R : Rep X s (A ++ B) a w) : Rep X s (B ++ A) a w :=
  R.reown _ (fun e he => ⟨e, List.mem_append.2 ((List.mem_append.1 he).symm), rfl, ObLe.refl _⟩) (((List.perm_append_comm (l₁ := A) (l₂ := B)).map _).nodup_iff.1 R.ok.nodup)

theorem Rep.hide (R : Rep X s (A ++ B) a w) : Rep (X.hide B) s A a w := by
  have hl : ∀ b, A.has b → (A ++ B).has b := fun b h => has_append.2 (.inl h)
  have hd := R.ok.nodup
  rw [List.map_append] at hd
  obtain ⟨h1, h2, h3⟩ := List.nodup_append.1 hd
  refine ⟨fun t => (R.tm t).mono (Grow.refl _ _) (fun b _ h => fo_hide.1 h), ⟨fun e he => ?_, h1, fun b hb => ?_, fun b hb => ?_⟩, fun b hb => R.new b (hl b hb), R.size, ?_, ?_⟩
  · exact (R.ok.holds e (List.mem_append_left _ he)).mono (Grow.refl (fun _ => False) w) (fun _ f => f.elim) (fun f => f) (fun b _ h => fo_hide.1 h)
  · rintro (h | h)
    · exact R.ok.apart b (hl b hb) h
    · exact h3 b hb b h rfl
  · rcases hb with hb | hb
    · exact R.ok.fr b hb
    · exact R.ok.lt (X := X) (has_append.2 (.inr hb))
  · obtain ⟨bs, e1, e2, e3⟩ := R.defs
    refine ⟨bs, e1, e2, fun b hb => ?_⟩
    obtain ⟨e4, e5, e6, e7⟩ := e3 b hb
    exact ⟨fun h => e4 (hl b h), fun h => h.elim e5 (fun h => e4 (has_append.2 (.inr h))), e6, e7⟩
  · exact R.kept

/-- the same state, as of now -/
def Cx.now (X : Cx) (own : Own) (a : Act) (w : World) : Cx := { X with own0 := own.has, w0 := w, defs := a.defers }
theorem Rep.now (R : Rep X s own a w) : Rep (X.now own a w) s own a w :=
  ⟨R.tm, R.ok, fun _ h => .inl h, R.size, ⟨[], rfl, List.nodup_nil, by simp⟩, Grow.refl _ _⟩

theorem Rep.back {s' : Slots} {B' : Own} {a' : Act} {w' : World} (R : Rep X s (A ++ B) a w) (R' : Rep ((X.hide A).now B a w) s' B' a' w') : Rep X s' (A ++ B') a' w' := by
  have hg : Grow B.has w w' := R'.kept
  have hnew : ∀ b, B'.has b → B.has b ∨ w.heap.size ≤ b := R'.new
  have hgo : Grow (A ++ B).has w w' := hg.mono fun b _ h => has_append.2 (.inr h)
  have hd := R.ok.nodup
  rw [List.map_append] at hd
  obtain ⟨h1, h2, h3⟩ := List.nodup_append.1 hd
  have hF : ∀ b, Fo X.fr (A ++ B') b → Fo (X.hide A).fr B' b := fun b h => by
    rcases h with h | h
    · exact .inl (.inl h)
    · rcases has_append.1 h with h | h
      · exact .inl (.inr h)
      · exact .inr h
  refine ⟨fun t => (R'.tm t).mono (Grow.refl _ _) (fun b _ h => hF b h), ⟨fun e he => ?_, ?_, fun b hb => ?_, fun b hb => Nat.lt_of_lt_of_le (R.ok.fr b hb) hg.sz⟩, fun b hb => ?_, R'.size, ?_, ?_⟩
  · rcases List.mem_append.1 he with he | he
    · have hA : A.has e.2.1 := List.mem_map.2 ⟨e, he, rfl⟩
      refine (R.ok.holds e (List.mem_append_left _ he)).mono hg (fun b hb => .inr (has_append.2 (.inr hb))) (fun hb => h3 _ hA _ hb rfl) (fun b hb hfo => ?_)
      rcases hfo with h | h
      · exact .inl h
      · rcases has_append.1 h with h | h
        · exact .inr (has_append.2 (.inl h))
        · rcases hnew b h with h | h
          · exact .inr (has_append.2 (.inr h))
          · omega
    · exact (R'.ok.holds e he).mono (Grow.refl (fun _ => False) w') (fun _ f => f.elim) (fun f => f) (fun b _ h => hF b h)
  · rw [List.map_append]
    exact List.nodup_append.2 ⟨h1, R'.ok.nodup, fun x hx y hy hxy => by subst hxy; exact R'.ok.apart x hy (.inr hx)⟩
  · rcases has_append.1 hb with hb | hb
    · exact R.ok.apart b (has_append.2 (.inl hb))
    · exact fun h => R'.ok.apart b hb (.inl h)
  · rcases has_append.1 hb with hb | hb
    · exact R.new b (has_append.2 (.inl hb))
    · rcases hnew b hb with h | h
      · exact R.new b (has_append.2 (.inr h))
      · exact .inr (Nat.le_trans R.kept.sz h)
  · obtain ⟨bs, e1, e2, e3⟩ := R.defs
    obtain ⟨cs, f1, f2, f3⟩ := R'.defs
    refine ⟨cs ++ bs, by rw [f1]; show _ ++ a.defers = _; rw [e1]; simp, ?_, fun b hb => ?_⟩
    · refine List.nodup_append.2 ⟨f2, e2, fun x hx y hy hxy => ?_⟩
      subst hxy
      have := (Array.getElem?_eq_some_iff.1 (e3 x hy).2.2.2).1
      have h := (f3 x hx).2.2.1
      exact absurd this (Nat.not_lt.2 h)
    · rcases List.mem_append.1 hb with hb | hb
      · obtain ⟨e4, e5, e6, e7⟩ := f3 b hb
        refine ⟨fun h => ?_, fun h => e5 (.inl h), Nat.le_trans R.kept.sz e6, e7⟩
        rcases has_append.1 h with h | h
        · exact e5 (.inr h)
        · exact e4 h
      · obtain ⟨e4, e5, e6, e7⟩ := e3 b hb
        have hlt := (Array.getElem?_eq_some_iff.1 e7).1
        refine ⟨fun h => ?_, e5, e6, (hg.same b hlt (fun h => e4 (has_append.2 (.inr h)))).trans e7⟩
        rcases has_append.1 h with h | h
        · exact e4 (has_append.2 (.inl h))
        · rcases hnew b h with h | h
          · exact e4 (has_append.2 (.inr h))
          · omega
  · exact kept_trans R.kept hgo (fun b hb => R.new b hb)

/-- each of these worlds stands in 'w', but for what was written -/
def Seen (L : List ((Nat → Prop) × World)) (w : World) : Prop := ∀ e, e ∈ L → e.2.heap.size ≤ w.heap.size ∧ Same e.1 e.2 w

theorem seen_step {L : List ((Nat → Prop) × World)} {w w' : World} (h : Seen L w) (hi : ∀ e, e ∈ L → ∀ b, B.has b → b < e.2.heap.size → e.1 b) (hg : Grow B.has w w') : Seen L w' := fun e he =>
  ⟨Nat.le_trans (h e he).1 hg.sz, fun b hb hn => (hg.same b (Nat.lt_of_lt_of_le hb (h e he).1) (fun hB => hn (hi e he b hB hb))).trans ((h e he).2 b hb hn)⟩

def onlyK (X : Cx) (K : Slots → Own → Prop) : Exit → Act → World → Prop
  | .normal, a, w => ∃ s own, K s own ∧ Rep X s own a w
  | _, _, _ => False

theorem compO_sel {P : Program} {n : Nat} {ops : Array Oper} {o : Oper} {ao : AO} (h : compO P n ops o = some ao) : ∀ c, o.op ≠ .defer c := comp_nd (compO_op h).1

theorem pure_op (R : Rep X s own a w) (o : Oper) (op : AOp) (hc : comp X.P o = some op) {K : AV → Prop} (h : op.step s own K) : ∃ v x, K x ∧ Rel (Fo X.fr own) w v x ∧ ∀ w', Same X.fr w w' → (execOp a.eval o).run X.P w' = .ok (.value v) w' := step_sound R o op hc h

theorem runD_sound {K : Slots → Own → Prop} (A : Own) (ops : Array Oper) (hs : Region.noSelect ops = true) (hnd : ∀ (j : Nat) (o : Oper), ops[j]? = some o → ∀ c, o.op ≠ .defer c) : ∀ (fuel : Nat) (listed : Array Bool) (l : List (Bool × AO)) (L : List ((Nat → Prop) × World)) (s : Slots) (B : Own) (a : Act) (w : World),
    eager X.P X.n ops fuel listed = some l → Rep X s (A ++ B) a w → Seen L w → (∀ e, e ∈ L → ∀ b, B.has b → b < e.2.heap.size → e.1 b) → runD X K A l s B →
    anyS (wideR X.rd) 0 X.P .any ops (onlyK X K) (Seen L) fuel listed a w := by
  have hsel : ∀ (j : Nat) (o : Oper), ops[j]? = some o → (∀ cs b, o.op ≠ .select cs b) ∧ ∀ c, o.op ≠ .defer c := fun j o ho => ⟨fun cs b => Region.noSelect_spec hs j o cs b ho, hnd j o ho⟩
  intro fuel
  induction fuel with
  | zero =>
    intro listed l L s B a w he R hS hI h
    simp only [eager] at he
    split at he
    · rename_i hr
      cases he
      exact ⟨hr, s, _, h, R⟩
    · cases he
  | succ fuel ih =>
    intro listed l L s B a w he R hS hI h
    have late : ∀ i o ao l', ops[i]? = some o → compO X.P X.n ops o = some ao → eager X.P X.n ops fuel (listed.setIfInBounds i true) = some l' →
        runD X K A ((true, ao) :: l') s B → wpOpIn (wideR X.rd) 0 X.P ops (onlyK X K) i (fun a' w' => Seen L w' ∧ anyS (wideR X.rd) 0 X.P .any ops (onlyK X K) (Seen L) fuel (listed.setIfInBounds i true) a' w') a w := by
      intro i o ao l' hi hc hl' h
      obtain ⟨hcp, hd, hdn⟩ := compO_op hc
      unfold wpOpIn
      simp only [hi]
      simp only [runD] at h
      rcases guard_sound R ops o X.n ao hc h with ⟨hw, h⟩ | ⟨hw, h⟩
      · rw [if_pos hw]
        split at h
        · obtain ⟨v, x, hK, hr, hg⟩ := pure_op R o ao.op hcp h
          refine ⟨fun _ _ => trivial, ?_⟩
          rw [Oper.semAt_eq _ _ _ (hnd i o hi), hg w (Same.refl _ w)]
          rw [hd] at hK
          exact ⟨hS, ih _ _ L _ B _ _ hl' (R.put o.dst hdn hr) hS hI hK⟩
        · have R1 := (R.swap.hide).now
          rw [hd] at h
          refine op_sound R1 o hdn ao.op hcp (Q := fun _ _ _ => False) (K := runD X K A l') h _ _ (fun s' B' a' w' hK hR => ?_) (fun c a' w' h => ?_)
          · have hg : Grow B.has w w' := hR.kept
            have hS' := seen_step hS hI hg
            have hnew : ∀ b, B'.has b → B.has b ∨ w.heap.size ≤ b := hR.new
            refine ⟨hS', ih _ _ L s' B' a' w' hl' (R.back hR) hS' (fun e he b hb hlt => ?_) hK⟩
            rcases hnew b hb with h | h
            · exact hI e he b h hlt
            · have := (hS e he).1
              omega
          · obtain ⟨_, _, h, _⟩ := h
            exact h.elim
      · rw [if_neg (by simp [hw])]
        rw [hd] at h
        exact ⟨fun _ _ => trivial, hS, ih _ _ L _ B _ _ hl' (R.put o.dst hdn (rel_undef _ _)) hS hI h⟩
    simp only [eager] at he
    split at he
    · rename_i hr
      cases he
      exact ⟨fun _ => ⟨s, _, h, R⟩, by rw [hr]; simp⟩
    · rename_i i hr
      simp only [Option.bind_eq_some_iff, Option.map_eq_some_iff] at he
      obtain ⟨o, hi, ao, hc, l', hl', rfl⟩ := he
      refine ⟨fun h0 => (by rw [hr] at h0; cases h0), fun j hj => ?_⟩
      rw [hr] at hj
      simp only [List.mem_singleton] at hj
      subst hj
      exact late _ o ao l' hi hc hl' h
    · simp only [Option.bind_eq_some_iff, Option.map_eq_some_iff] at he
      obtain ⟨i, hf, o, hi, ao, hc, l', hl', rfl⟩ := he
      have hmem := List.mem_of_find?_eq_some hf
      have hb := List.find?_some hf
      simp only [hi, Option.bind_some, hc, Option.any_some, Bool.and_eq_true] at hb
      obtain ⟨hfree, hp⟩ := hb
      obtain ⟨hcp, hd, hdn⟩ := compO_op hc
      simp only [runD, hp, if_true, Bool.false_eq_true, if_false] at h
      have RA := R.hide
      let D : (Nat → Prop) × World := ((X.hide B).fr, w)
      have hS2 : Seen (D :: L) w := fun e he => by
        rcases List.mem_cons.1 he with rfl | he
        · exact ⟨Nat.le_refl _, Same.refl _ _⟩
        · exact hS e he
      have hI2 : ∀ e, e ∈ D :: L → ∀ b, B.has b → b < e.2.heap.size → e.1 b := fun e he b hb hlt => by
        rcases List.mem_cons.1 he with rfl | he
        · exact .inr hb
        · exact hI e he b hb hlt
      have fin : ∀ v, GivesS X.P ops (Seen (D :: L)) o v a → anyS (wideR X.rd) 0 X.P .any ops (onlyK X K) (Seen (D :: L)) fuel (listed.setIfInBounds i true) (a.put o.dst v) w → anyS (wideR X.rd) 0 X.P .any ops (onlyK X K) (Seen L) (fuel + 1) listed a w := fun v hv hk =>
        anyS_mono (fun w' h => fun e he => h e (List.mem_cons_of_mem _ he)) _ _ _ _
          (anyS_first (fun _ => trivial) hi hsel (fun _ _ _ h => h) fuel listed a w (Region.free_spec hi hfree) hmem hv hS2 hk)
      rcases guard_sound R ops o X.n ao hc h with ⟨hw, h⟩ | ⟨hw, h⟩
      · obtain ⟨v, x, hK, hr, hg⟩ := pure_op RA o ao.op hcp h
        refine fin v (.inl ⟨hw, fun w' hw' => hg w' ((hw' D (List.mem_cons_self ..)).2)⟩) ?_
        rw [hd] at hK
        exact ih _ _ (D :: L) _ B _ _ hl' (R.put o.dst hdn (hr.mono (Grow.refl _ _) (fun b _ h => fo_hide.2 h))) hS2 hI2 hK
      · refine fin undef (.inr ⟨hw, rfl⟩) ?_
        rw [hd] at h
        exact ih _ _ (D :: L) _ B _ _ hl' (R.put o.dst hdn (rel_undef _ _)) hS2 hI2 h

theorem awp_regD {Q : Post} {sk : Bool} {l : List (Bool × AO)} (A B : Own) (hm : X.P.follows .mixedOrders = true) (hp : own.Perm (A ++ B)) (h : ∀ (K : Slots → Own → Prop), (∀ s own, Q .normal s own → K s own) → runD X K A l s B) : AWP X (.regD sk l) s own Q := by
  intro c hc a w R
  obtain ⟨id, ops, _, rfl, ⟨hs, hd⟩, hx⟩ := comp_regD hc
  have R1 : Rep X s (A ++ B) a w := R.reown _ (fun e he => ⟨e, hp.mem_iff.2 he, rfl, ObLe.refl _⟩) ((hp.map _).nodup_iff.1 R.ok.nodup)
  have R2 : Rep X s (A ++ B) a { w with drawn := w.drawn + 1 } := R1.grow ⟨Nat.le_refl _, fun _ _ _ => rfl, fun _ _ h => h, fun _ _ _ => rfl, rfl, rfl, rfl⟩
  have h3 := runD_sound (K := fun s own => Q .normal s own) A ops hs (noDefer_spec hd) ops.size (Array.replicate ops.size false) l [] s B a _ hx R2 (fun e he => by cases he) (fun e he => by cases he) (h _ (fun _ _ h => h))
  refine wpIn_mono (wpIn_region_any hm (any_of_S _ _ _ _ h3)) ?_
  rintro e a' w' h4
  cases e with
  | normal => exact h4
  | _ => exact h4.elim
end
end Go.Aw
