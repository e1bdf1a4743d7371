/- All operations, regions, and the logic of codes. -/
import Derived.Test.YtkmnhomehejppaaAwRun
set_option linter.unusedSimpArgs false
set_option linter.unusedVariables false
set_option linter.deprecated false
namespace Go.Aw

section
variable {X : Cx} {s : Slots} {own : Own} {a : Act} {w : World}

theorem kept_trans {D : Nat → Prop} {w' : World} (hk : Grow X.own0 X.w0 w) (hg : Grow D w w') (hD : ∀ b, D b → X.own0 b ∨ X.w0.heap.size ≤ b) : Grow X.own0 X.w0 w' := by
  refine ⟨Nat.le_trans hk.sz hg.sz, fun x hx hn => ?_, fun x q hq => hg.shp _ _ (hk.shp _ _ hq), fun x hx i => (hg.frz x (Nat.lt_of_lt_of_le hx hk.sz) i).trans (hk.frz x hx i), hg.os.trans hk.os, hg.tape.trans hk.tape, hg.out.trans hk.out⟩
  refine (hg.same x (Nat.lt_of_lt_of_le hx hk.sz) (fun hd => ?_)).trans (hk.same x hx hn)
  rcases hD x hd with h | h
  · exact hn h
  · omega

/-- behind a call -/
theorem Rep.after {w' : World} {own' : Own} (R : Rep X s own a w) (hok : OwnOk X.fr w' own') (hg : Grow own.has w w') (hn : ∀ b, own'.has b → own.has b ∨ w.heap.size ≤ b) : Rep X s own' a w' := by
  have hF : ∀ b, b < w.heap.size → Fo X.fr own' b → Fo X.fr own b := fun b hb h => by
    rcases h with h | h
    · exact .inl h
    · rcases hn b h with h | h
      · exact .inr h
      · omega
  refine ⟨fun t => (R.tm t).mono (hg.mono fun _ _ h => .inr h) hF, hok, fun b hb => ?_, R.size, R.defs.mono (fun b hb h => by
    rcases hn b h with h | h
    · exact h
    · omega) (fun b hb hn => hg.same b hb hn), kept_trans R.kept hg R.new⟩
  rcases hn b hb with h | h
  · exact R.new b h
  · exact .inr (Nat.le_trans R.kept.sz h)

theorem o_call (R : Rep X s own a w) (o : Oper) (hd : o.dst.all (· < X.n) = true) (hnd : ∀ c, o.op ≠ .defer c) (f : FuncId) (vs : Array Value) (args : List AV) (hrun : (execOp a.eval o).run X.P w = .ok (.enter f vs) w)
    (hs : vs.size = args.length) (hr : ∀ (j : Nat) (v : Value) (y : AV), vs[j]? = some v → args[j]? = some y → Rel (Fo X.fr own) w v y)
    {Q : Exit → Slots → Own → Prop} {K : Slots → Own → Prop} (h : CallA X.P X.fr f args own (callK K Q o.dst s)) : OpOut X Q K o a w := by
  intro next Q' hn hq
  refine ⟨fun _ _ => trivial, ?_⟩
  rw [Oper.semAt_eq _ _ _ hnd, hrun]
  refine ⟨fun hd => (by cases hd), callsIn_wideR.2 ((h vs w hs hr R.ok).mono fun e w' ⟨r, own', hR, he, hok, hg, hnew⟩ => ?_)⟩
  have hR' := R.after hok hg hnew
  cases r with
  | val x =>
    obtain ⟨v, rfl, hrel⟩ := he
    exact hn _ _ _ _ hR (hR'.put o.dst hd hrel)
  | pan c =>
    simp only at he
    subst he
    exact hq _ _ _ ⟨_, _, hR, hR'⟩

theorem run_callFunc {P : Program} {f : FuncId} (h : okF P f = true) (args : Array Value) (w : World) : (callFunc f args).run P w = .ok (.enter f args) w := by
  unfold okF at h
  cases hf : P.funcs[f]? with
  | none => simp [hf] at h
  | some fn =>
    simp [hf] at h
    have h2 : fn.body.isNone = false := by
      cases hb : fn.body with
      | none => simp [hb] at h
      | some _ => rfl
    have h3 : (fn.name == "runtime.NumGoroutine") = false := by simpa using h.2
    unfold callFunc
    simp only [Sem.run_bind, run_program, Result.andThen_ok, hf, h2, h3]
    rfl

theorem o_callF (R : Rep X s own a w) (o : Oper) (hd : o.dst.all (· < X.n) = true) (c : Call) (ho : o.op = .call c) (f : FuncId) (hcc : c.callee = .value (.func f)) (hok : okF X.P f = true)
    {Q : Exit → Slots → Own → Prop} {K : Slots → Own → Prop} (h : opA X Q o.dst (.callF f (c.args.toList.map od)) s own K) : OpOut X Q K o a w := by
  obtain ⟨h1, h2⟩ := relL_map R c.args
  refine o_call R o hd (by simp [ho]) f (c.args.map a.eval) _ ?_ h1 h2 h
  have hc := run_callFunc hok (c.args.map a.eval) w
  simp [execOp, ho, resolve, hcc, Act.eval, Deferred.ofValue, invoke]
  exact hc

theorem o_callV (R : Rep X s own a w) (o : Oper) (hd : o.dst.all (· < X.n) = true) (c : Call) (ho : o.op = .call c) (x : Operand) (hcc : c.callee = .value x)
    {Q : Exit → Slots → Own → Prop} {K : Slots → Own → Prop} (h : opA X Q o.dst (.callV (od x) (c.args.toList.map od)) s own K) : OpOut X Q K o a w := by
  have hx := R.od x
  simp only [opA] at h
  cases hv : (od x).ev s with
  | fn ff first cap =>
    rw [hv] at hx
    simp only [hv, ValA] at h
    cases ff with
    | yield l =>
      cases first with
      | cons => exact h.elim
      | nil =>
      cases cap with
      | cons => exact h.elim
      | nil =>
      simp only at h
      generalize hep : a.eval x = v at hx
      cases hx with
      | fn _ as bs _ _ hla hlb hra hrb =>
        have ea : as = #[] := Array.eq_empty_of_size_eq_zero hla
        have eb : bs = #[] := Array.eq_empty_of_size_eq_zero hlb
        subst ea eb
        obtain ⟨h1, h2⟩ := relL_map R c.args
        obtain ⟨f, tmps, as, bd, hy, hround⟩ := h (c.args.map a.eval) w h1 h2 R.ok
        intro next Q' hn hq
        refine ⟨fun _ _ => trivial, ?_⟩
        rw [Oper.semAt_eq _ _ _ (by simp [ho])]
        have hrun : (execOp a.eval o).run X.P w = .ok (.round l f tmps as bd) w := by
          simp only [execOp, ho, resolve, hcc, Sem.run_bind, hep, Deferred.ofValue, Sem.run_pure, Result.andThen_ok, invoke]
          simpa using hy
        rw [hrun]
        refine ⟨fun hd => (by cases hd), ?_⟩
        obtain ⟨_, hround⟩ := hround
        refine ⟨trivial, fun c cs hr' => ?_⟩
        obtain ⟨e, w', ⟨r, own', hR, he, hok, hg, hnew⟩, hst⟩ := hround c cs hr'
        refine ⟨e, w', ?_, hst⟩
        have hR' := R.after hok hg hnew
        cases r with
        | val x =>
          obtain ⟨v, rfl, hrel⟩ := he
          exact hn _ _ _ _ hR (hR'.put o.dst hd hrel)
        | pan c =>
          simp only at he
          subst he
          exact hq _ _ _ ⟨_, _, hR, hR'⟩
    | func f =>
      obtain ⟨hok, h⟩ := h
      generalize hep : a.eval x = v at hx
      cases hx with
      | fn _ as bs _ _ hla hlb hra hrb =>
        obtain ⟨h1, h2⟩ := relL_map R c.args
        have hc := run_callFunc hok (as ++ c.args.map a.eval ++ bs) w
        refine o_call R o hd (by simp [ho]) f (as ++ c.args.map a.eval ++ bs) _ ?_ ?_ ?_ h
        · simp only [execOp, ho, resolve, hcc, Sem.run_bind, hep, Deferred.ofValue, Sem.run_pure, Result.andThen_ok, invoke]
          exact hc
        · simp only [Array.size_append, List.length_append, hla, hlb, h1]
        · intro j v y hj hy
          have e1 : ((first ++ (c.args.toList.map od).map (·.ev s)) ++ cap)[j]? = some y := hy
          by_cases hj1 : j < as.size
          · rw [Array.getElem?_append_left (by simp; omega), Array.getElem?_append_left hj1] at hj
            rw [List.getElem?_append_left (by simp; omega), List.getElem?_append_left (by omega)] at e1
            exact hra _ _ _ hj e1
          · by_cases hj2 : j < as.size + (c.args.map a.eval).size
            · rw [Array.getElem?_append_left (by simpa using hj2), Array.getElem?_append_right (by omega)] at hj
              rw [List.getElem?_append_left (by rw [List.length_append, ← h1]; omega), List.getElem?_append_right (by omega), ← hla] at e1
              exact h2 _ _ _ hj e1
            · rw [Array.getElem?_append_right (by simp at hj2 ⊢; omega)] at hj
              rw [List.getElem?_append_right (by rw [List.length_append, ← h1]; omega), List.length_append, ← h1, ← hla] at e1
              simp only [Array.size_append] at hj
              exact hrb _ _ _ hj e1
    | _ => simp at h
  | _ => simp [hv, ValA] at h

theorem comp_nd {P : Program} {o : Oper} {op : AOp} (hc : comp P o = some op) : ∀ c, o.op ≠ .defer c := by
  intro c h
  simp [comp, h] at hc

/-- Every operation. -/
theorem op_sound (R : Rep X s own a w) (o : Oper) (hd : o.dst.all (· < X.n) = true) (op : AOp) (hc : comp X.P o = some op) {Q : Exit → Slots → Own → Prop} {K : Slots → Own → Prop} (h : opA X Q o.dst op s own K) : OpOut X Q K o a w := by
  have pure' : op.step s own (fun x => K (putS o.dst x s) own) → OpOut X Q K o a w := fun h => by
    obtain ⟨v, x, hK, hr, hg⟩ := step_sound R o op hc h
    exact .of_run (comp_nd hc) (hg w (Same.refl _ w)) hK (R.put o.dst hd hr)
  cases ho : o.op with
  | alloc t => exact o_alloc R o hd t ho op hc h
  | box t x => simp only [comp, ho, Option.some.injEq] at hc; subst hc; exact o_box R o hd t x ho h
  | store t x y => exact o_store R o hd t x y ho op hc h
  | buildSlice t n ps => exact o_mkrow R o hd t n ps ho op hc h
  | call c =>
    have hc0 := hc
    simp only [comp, ho, compC] at hc
    cases hcc : c.callee with
    | builtin b =>
      simp only [hcc] at hc
      unfold compB at hc
      split at hc
      · refine pure' ?_
        split at hc <;> simp only [Option.some.injEq, reduceCtorEq] at hc <;> subst hc <;> exact h
      · rename_i x y t u hargs hts
        split at hc
        · rename_i e hu
          split at hc
          · rename_i htu
            subst htu
            cases hi : X.P.info? e with
            | none => simp [hi] at hc
            | some i =>
              simp only [hi, Option.bind_some] at hc
              split at hc
              · rename_i hz
                simp only [Option.some.injEq] at hc
                subst hc
                obtain ⟨z, hz1, hz2⟩ := Option.map_eq_some_iff.1 hz
                obtain ⟨hpos, h⟩ := h
                obtain ⟨r, w', hrun, s', own', hK, hR⟩ := app_sound R o.dst hd t o.type e i z hu hi hz1 hz2 hpos (R.od x) (R.od y) h
                refine .of_run (by simp [ho]) (v := r) (w' := w') ?_ hK hR
                have ha : c.args = #[x, y] := Array.toList_inj.1 hargs
                have hts' : c.argTypes = #[t, t] := Array.toList_inj.1 hts
                simp [execOp, ho, resolve, hcc, ha, hts', invoke, builtin, hrun]
              · cases hc
          · cases hc
        · cases hc
      · cases hc
    | value f =>
      simp only [hcc] at hc
      split at hc
      · split at hc
        · rename_i f' hok
          simp only [Option.some.injEq] at hc
          subst hc
          exact o_callF R o hd c ho _ hcc hok h
        · cases hc
      · simp only [Option.some.injEq] at hc
        subst hc
        exact o_callV R o hd c ho _ hcc h
    | invoke _ _ => simp [hcc] at hc
  | build t ps =>
    simp only [comp, ho] at hc
    split at hc
    · split at hc
      · obtain ⟨_, _, _, _, _, hf⟩ := zeros_some hc
        obtain ⟨l, _, rfl⟩ := Option.map_eq_some_iff.1 hf
        exact pure' h
      · cases hc
    · split at hc
      · obtain ⟨_, _, _, _, _, hf⟩ := zeros_some hc
        obtain ⟨l, _, rfl⟩ := Option.map_eq_some_iff.1 hf
        exact pure' h
      · cases hc
    · cases hc
  | _ =>
    cases op <;> first
      | exact pure' h
      | (exfalso
         simp only [comp, ho] at hc
         (repeat' split at hc) <;> first
           | (simp_all; done)
           | (obtain ⟨_, _, hc⟩ := Option.bind_eq_some_iff.1 hc
              first
                | (obtain ⟨_, _, hc⟩ := Option.bind_eq_some_iff.1 hc
                   split at hc <;> simp_all; done)
                | (split at hc <;> simp_all; done)
                | ((repeat' split at hc) <;> simp_all; done)))
end
end Go.Aw
