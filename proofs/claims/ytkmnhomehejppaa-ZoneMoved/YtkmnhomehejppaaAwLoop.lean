/- A range over a function: the statement, and its rounds. -/
import Derived.Test.YtkmnhomehejppaaAwCode
set_option linter.unusedSimpArgs false
set_option linter.unusedVariables false
set_option linter.deprecated false
namespace Go.Aw

/-- the record is that of the loop of these codes, in this state -/
def LP (P : Program) (n : Nat) (ps : List Nat) (x y : AC) (st : LoopState) (j : Option Code) : Loop → Prop := fun r =>
  r.state = st ∧ r.pending = j ∧ r.tmps.size = n ∧ r.params.toList = ps ∧ compCode P n r.assign = some x ∧ compCode P n r.body = some y

/-- behind the function that was ranged over -/
def rangeK (k l : Nat) (s : Slots) (Q : Post) : Res → Own → Prop
  | .val _, own => ∃ s' p, own.find k l = some (.loop s' p) ∧ ∃ j, (∀ r, p r → r.state ≠ .busy ∧ r.pending = j) ∧
      match j with
      | none => Q .normal s (own.drop k)
      | some .ret => Q .ret s (own.drop k)
      | some (.exit id) => Q (.exit id) s (own.drop k)
      | _ => False
  | .pan c, own => Q (.panic c) s own

section
variable {X : Cx} {s : Slots} {own : Own} {Q : Post}

theorem rel_yield {F : Nat → Prop} {w : World} (l : Nat) : Rel F w (.func (.yield l) #[] #[]) (.fn (.yield l) [] []) := .fn _ _ _ _ _ rfl rfl (by simp) (by simp)

/-- behind 'endLoop': the record is owned no longer -/
theorem Rep.endLoop {a : Act} {w : World} (R : Rep X s own a w) {k l : Nat} {s' : Slots} {p : Loop → Prop} (hf : own.find k l = some (.loop s' p)) (hb : ∀ r, p r → r.state ≠ .busy) :
    ∃ r w', p r ∧ (Instr.endLoop l).run X.P w = .ok r.pending w' ∧ Rep X s (own.drop k) a w' := by
  obtain ⟨r, h1, h2, h3⟩ := R.ok.holds _ (Own.find_mem hf)
  simp only at h1
  obtain ⟨hR, _⟩ := R.setLoop (p' := fun _ => True) hf (r' := { r with state := .exhausted }) h1 rfl trivial
  refine ⟨r, _, h2, run_endLoop h1 (hb r h2), ?_⟩
  exact hR.reown _ (fun e he => ⟨e, drop_put _ _ _ _ he, rfl, ObLe.refl _⟩) (((drop_sub own k).map _).nodup R.ok.nodup)

/-- what comes behind the call of the function that is ranged over -/
theorem range_ends {a : Act} {w : World} {k l : Nat} (R : Rep X s own a w) {Q : Post} {e : Ending} {w' : World} (h : EndsA X.fr own (rangeK k l s Q) w e w') :
    rangePost (wideR X.rd) 0 X.P l (liftQ X Q) a e w' := by
  obtain ⟨r, own', hR, he, hok, hg, hnew⟩ := h
  have R' := R.after hok hg hnew
  cases r with
  | pan c =>
    simp only at he
    subst he
    exact ⟨s, own', hR, R'⟩
  | val x =>
    obtain ⟨v, rfl, _⟩ := he
    obtain ⟨s', p, hf, j, hp, hq⟩ := hR
    obtain ⟨r, w2, hpr, hend, R2⟩ := R'.endLoop hf (fun r hr => (hp r hr).1)
    rw [(hp r hpr).2] at hend
    refine ⟨j, w2, hend, ?_⟩
    split at hq
    · exact ⟨s, _, hq, R2⟩
    · exact wpIn_ret ⟨s, _, hq, R2⟩
    · exact wpIn_exit ⟨s, _, hq, R2⟩
    · exact hq.elim

theorem awp_range (k : Nat) {g : Od} {ps : List Nat} {x y : AC} (hrd : X.rd = none) {f : FuncId} {first cap : List AV} (hv : g.ev s = .fn (.func f) first cap) (hok : okF X.P f = true)
    (h : ∀ l, CallA X.P X.fr f (first ++ [.fn (.yield l) [] []] ++ cap) ((k, l, .loop s (LP X.P X.n ps x y .ready none)) :: own) (rangeK k l s Q)) : AWP X (.range g ps x y) s own Q := by
  intro c hc a w R
  cases c <;> first
    | (rcases compReg_shape hc with ⟨_, h, _⟩ | ⟨_, h, _⟩ <;> cases h; done)
    | simp only [compCode, Option.bind_eq_some_iff, Option.map_eq_some_iff, reduceCtorEq, and_false, exists_false, Option.some.injEq, exists_const] at hc
  rename_i g' ps' ca cb
  obtain ⟨x', hx, y', hy, he⟩ := hc
  cases he
  have hg := R.od g'
  rw [hv] at hg
  generalize hev : a.eval g' = v at hg
  cases hg with
  | fn _ as bs _ _ hla hlb hra hrb =>
  refine wpIn_rangeFunc fun fid _ => ?_
  let r0 : Loop := { state := .ready, pending := none, fn := fid, tmps := a.tmps, params := ps', assign := ca, body := cb, defers := w.heap.size }
  have R1 := R.mark
  have hRs : (w.alloc (.deferred (some []))).heap.size = w.heap.size + 1 := by simp
  have R2 := R1.newLoop k s (LP X.P X.n ps'.toList x y .ready none) r0 ⟨rfl, rfl, R.size, rfl, hx, hy⟩ R1.tm
  rw [hRs] at R2
  have hcall := h (w.heap.size + 1) (as ++ #[.func (.yield (w.heap.size + 1)) #[] #[]] ++ bs) ((w.alloc (.deferred (some []))).alloc (.loop r0)) (by simp [hla, hlb]; omega) (fun j v z hj hz => by
    have e1 : (first ++ [AV.fn (.yield (w.heap.size + 1)) [] []] ++ cap)[j]? = some z := hz
    have hmono : ∀ {v z}, Rel (Fo X.fr own) w v z → Rel (Fo X.fr ((k, w.heap.size + 1, .loop s (LP X.P X.n ps'.toList x y .ready none)) :: own)) ((w.alloc (.deferred (some []))).alloc (.loop r0)) v z := fun h =>
      h.mono ((grow_alloc w _).trans (grow_alloc _ (.loop r0)) |>.mono fun _ _ f => f.elim) (fun b hb hfo => by
        rcases fo_cons.1 hfo with h | h
        · omega
        · exact h)
    by_cases hj1 : j < as.size
    · rw [Array.getElem?_append_left (by simp; omega), Array.getElem?_append_left hj1] at hj
      rw [List.getElem?_append_left (by simp; omega), List.getElem?_append_left (by omega)] at e1
      exact hmono (hra _ _ _ hj e1)
    · by_cases hj2 : j = as.size
      · subst hj2
        rw [Array.getElem?_append_left (by simp), Array.getElem?_append_right (by omega)] at hj
        rw [List.getElem?_append_left (by simp; omega), List.getElem?_append_right (by omega)] at e1
        simp [hla] at hj e1
        rw [← hj, ← e1]
        exact rel_yield _
      · rw [Array.getElem?_append_right (by simp; omega)] at hj
        rw [List.getElem?_append_right (by simp; omega)] at e1
        simp only [Array.size_append, List.length_append, ← hla] at hj e1
        exact hmono (hrb _ _ _ hj e1)) R2.ok
  have hres : (resolve a.eval (rangeCall g' (w.heap.size + 1)) 0).run X.P ((w.alloc (.deferred (some []))).alloc (.loop r0)) = .ok { target := .fn (.func f) bs, args := as ++ #[.func (.yield (w.heap.size + 1)) #[] #[]] } ((w.alloc (.deferred (some []))).alloc (.loop r0)) := by
    have he : (rangeCall g' (w.heap.size + 1)).args.map a.eval = #[.func (.yield (w.heap.size + 1)) #[] #[]] := by simp [Act.eval]
    simp only [resolve, he]
    rw [hev]
    rfl
  refine ⟨w.heap.size + 1, [markD w.heap.size], _, { target := .fn (.func f) bs, args := as ++ #[.func (.yield (w.heap.size + 1)) #[] #[]] }, _, f, _, _, (by rw [show (wideR X.rd).round = none from hrd]; exact run_enterLoop_outer fid a.tmps ps' ca cb), hres, fun _ _ => trivial, run_callFunc hok _ _, fun hd => (by cases hd), ?_⟩
  exact callsIn_wideR.2 (hcall.mono fun e w' he => range_ends R2 he)

/-- yield's arguments laid into the temporaries -/
def putAll : List Nat → List AV → Slots → Slots
  | t :: r, x :: xs, s => putAll r xs ((t, x) :: s)
  | _, _, s => s

theorem fold_rel {F : Nat → Prop} {w : World} : ∀ (ps : List Nat) (vs : List Value) (xs : List AV) (tmps : Array Value) (s : Slots), ps.length = vs.length → vs.length = xs.length → (∀ t, t ∈ ps → t < tmps.size) → (∀ t, Rel F w (tmps.getD t undef) (s.get t)) →
    (∀ (j : Nat) (v : Value) (y : AV), vs[j]? = some v → xs[j]? = some y → Rel F w v y) →
    ((ps.zip vs).foldl (fun tmps (p : Nat × Value) => tmps.setIfInBounds p.1 p.2) tmps).size = tmps.size ∧
    ∀ t, Rel F w (((ps.zip vs).foldl (fun tmps (p : Nat × Value) => tmps.setIfInBounds p.1 p.2) tmps).getD t undef) ((putAll ps xs s).get t)
  | [], [], [], tmps, s, _, _, _, h, _ => ⟨rfl, h⟩
  | p :: ps, v :: vs, x :: xs, tmps, s, h1, h2, hb, h, hr => by
    have := fold_rel ps vs xs (tmps.setIfInBounds p v) ((p, x) :: s) (by simpa using h1) (by simpa using h2) (fun t ht => by simpa using hb t (List.mem_cons_of_mem _ ht)) (fun t => by
      simp only [Slots.get]
      by_cases hp : p = t
      · subst hp
        rw [if_pos rfl]
        have hlt := hb p (List.mem_cons_self ..)
        simp only [Array.getD_eq_getD_getElem?, Array.getElem?_setIfInBounds_self_of_lt hlt, Option.getD_some]
        exact hr 0 v x rfl rfl
      · rw [if_neg hp]
        have := h t
        simp only [Array.getD_eq_getD_getElem?, Array.getElem?_setIfInBounds_ne hp] at this ⊢
        exact this) (fun j v y hj hy => hr (j + 1) v y hj hy)
    simpa [putAll] using this

/-- how a round's body is left -/
def roundQ (P : Program) (n : Nat) (k l : Nat) (ps : List Nat) (x y : AC) (R : Res → Own → Prop) : Post
  | .normal, _, own => ∃ s', own.find k l = some (.loop s' (LP P n ps x y .busy none)) ∧ Leaves (own.put k (.loop s' (LP P n ps x y .ready none))) (R (.val (.bool true)))
  | .ret, _, own => ∃ s', own.find k l = some (.loop s' (LP P n ps x y .busy none)) ∧ Leaves (own.put k (.loop s' (LP P n ps x y .done (some .ret)))) (R (.val (.bool false)))
  | .exit id, _, own => ∃ s', own.find k l = some (.loop s' (LP P n ps x y .busy none)) ∧ Leaves (own.put k (.loop s' (LP P n ps x y .done (some (.exit id))))) (R (.val (.bool false)))
  | _, _, _ => False

theorem round_end {a : Act} {w : World} (R : Rep X s own a w) {k l n : Nat} {ps : List Nat} {x y : AC} {s' : Slots} (hf : own.find k l = some (.loop s' (LP X.P n ps x y .busy none))) (j : Option Code) {G : Own → Prop}
    (hl : Leaves (own.put k (.loop s' (LP X.P n ps x y (if j.isNone then .ready else .done) j))) G) :
    ∃ w', (Instr.endRound l j).run X.P w = .ok (.bool j.isNone) w' ∧ ∃ o, G o ∧ Rep X s o a w' := by
  obtain ⟨r, h1, ⟨h2, h3, h4⟩, _⟩ := R.ok.holds _ (Own.find_mem hf)
  simp only at h1
  obtain ⟨hR, _⟩ := R.setLoop (p' := LP X.P n ps x y (if j.isNone then .ready else .done) j) hf (r' := { r with state := if j.isNone then .ready else .done, pending := j }) h1 rfl ⟨rfl, rfl, h4⟩
  obtain ⟨o, ho, hG⟩ := hl
  have hm : ∀ e, e ∈ o → ∃ e0, e0 ∈ own.put k (.loop s' (LP X.P n ps x y (if j.isNone then .ready else .done) j)) ∧ e0.2 = e.2 := fun e he => by
    obtain ⟨e0, h0, h1⟩ := List.mem_map.1 (ho.subset (List.mem_map.2 ⟨e, he, rfl⟩))
    exact ⟨e0, h0, h1⟩
  refine ⟨_, run_endRound j h1, o, hG, hR.reown o (fun e he => ?_) ?_⟩
  · obtain ⟨e0, h0, h1⟩ := hm e he
    exact ⟨e0, h0, by rw [h1], by rw [h1]; exact ObLe.refl _⟩
  · have h1 := ho.map (fun p : Nat × Ob => p.1)
    simp only [List.map_map] at h1
    exact h1.nodup hR.ok.nodup

/-- The contract of a 'yield', out of the round's codes. -/
theorem round_intro {P : Program} {n k l : Nat} {ps : List Nat} {x y : AC} {args : List AV} {own : Own} {s0 : Slots} {R : Res → Own → Prop} (hf : own.find k l = some (.loop s0 (LP P n ps x y .ready none)))
    (hl : args.length = ps.length) (hps : ps.all (· < n) = true)
    (h : ∀ X : Cx, X.P = P → X.n = n → X.defs = [] → X.rd = some l → AWP X x (putAll ps args s0) own (thenQ (fun s own' => ∃ s', own'.find k l = some (.loop s' (LP P n ps x y .ready none)) ∧
      AWP X y s (own'.put k (.loop s' (LP P n ps x y .busy none))) (roundQ P n k l ps x y R)) (fun _ _ _ => False))) : ValC P (.fn (.yield l) [] []) args own R := by
  intro fr vs w hvl hr hok
  obtain ⟨r, h1, ⟨h2, h3, h4, h5, h6, h7⟩, h8⟩ := hok.holds _ (Own.find_mem hf)
  simp only at h1
  have hsz : vs.size = r.params.size := by rw [hvl, hl, ← h5]; simp
  refine ⟨_, _, _, _, run_yield h1 hsz, roundIn_of_wpIn trivial ?_⟩
  let X : Cx := ⟨P, fr, w, own.has, n, [], some l⟩
  have hin : Fence.wide.inRound l = wideR X.rd := rfl
  obtain ⟨hsz2, hrel2⟩ := fold_rel (F := Fo fr own) (w := w) ps vs.toList args r.tmps s0 (by rw [← hl]; simp [hvl]) (by simp [hvl]) (fun t ht => by rw [h4]; simpa using List.all_eq_true.1 hps t ht) h8 (fun j v y hj hy => hr j v y (by simpa using hj) hy)
  have hfold : (r.params.zip vs).foldl (fun tmps (t, a) => tmps.setIfInBounds t a) r.tmps = (ps.zip vs.toList).foldl (fun tmps (p : Nat × Value) => tmps.setIfInBounds p.1 p.2) r.tmps := by
    rw [← Array.foldl_toList, Array.toList_zip, h5]
  have R0 : Rep X (putAll ps args s0) own { tmps := (r.params.zip vs).foldl (fun tmps (t, a) => tmps.setIfInBounds t a) r.tmps, defers := [] } w := by
    rw [hfold]
    exact ⟨hrel2, hok, fun b hb => .inl hb, by rw [hsz2, h4], ⟨[], rfl, List.nodup_nil, by simp⟩, Grow.refl _ _⟩
  rw [hin]
  refine wpIn_mono (h X rfl rfl rfl rfl _ h6 _ _ R0) ?_
  rintro e a1 w1 ⟨s1, own1, hq, R1⟩
  cases e with
  | normal =>
    obtain ⟨s', hf1, hbody⟩ := hq
    obtain ⟨r1, e1, ⟨e2, e3, e4, e5, e6, e7⟩, e8⟩ := R1.ok.holds _ (Own.find_mem hf1)
    simp only at e1
    obtain ⟨R2, _⟩ := R1.setLoop (p' := LP P n ps x y .busy none) hf1 (r' := { r1 with state := .busy }) e1 rfl ⟨rfl, e3, e4, e5, e6, e7⟩
    refine ⟨_, run_beginRound e1 e2, ?_⟩
    refine wpIn_mono (hbody _ h7 _ _ R2) ?_
    rintro e a2 w2 ⟨s2, own2, hq2, R3⟩
    cases e with
    | normal =>
      obtain ⟨s3, hf3, hl3⟩ := hq2
      obtain ⟨w3, hrun, o, hG, R4⟩ := round_end R3 hf3 none hl3
      exact ⟨_, w3, hrun, .val (.bool true), o, hG, ⟨_, rfl, .bool true⟩, R4.ok, R4.kept, R4.new⟩
    | ret =>
      obtain ⟨s3, hf3, hl3⟩ := hq2
      obtain ⟨w3, hrun, o, hG, R4⟩ := round_end R3 hf3 (some .ret) hl3
      exact ⟨_, w3, hrun, .val (.bool false), o, hG, ⟨_, rfl, .bool false⟩, R4.ok, R4.kept, R4.new⟩
    | exit id =>
      obtain ⟨s3, hf3, hl3⟩ := hq2
      obtain ⟨w3, hrun, o, hG, R4⟩ := round_end R3 hf3 (some (.exit id)) hl3
      exact ⟨_, w3, hrun, .val (.bool false), o, hG, ⟨_, rfl, .bool false⟩, R4.ok, R4.kept, R4.new⟩
    | _ => exact hq2.elim
  | _ => exact hq.elim
end
end Go.Aw
