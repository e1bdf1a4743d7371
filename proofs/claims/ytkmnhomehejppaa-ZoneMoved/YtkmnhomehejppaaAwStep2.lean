/- Operations that only read, further: the soundness of 'AOp.step'. -/
import Derived.Test.YtkmnhomehejppaaAwStep
import Derived.Test.YtkmnhomehejppaaAwFill
set_option linter.unusedSimpArgs false
set_option linter.unusedVariables false
set_option linter.deprecated false
namespace Go.Aw

section
variable {X : Cx} {s : Slots} {own : Own} {a : Act} {w : World} {K : AV → Prop}

theorem relC_part {F : Nat → Prop} {vs : Array Value} {cs : List AV} (h : RelC F w vs cs) (off sz : Nat) (hle : off + sz ≤ cs.length) : RelC F w (vs.extract off (off + sz)) ((cs.drop off).take sz) := by
  have hl := h.len
  refine ⟨by simp; omega, fun j v hj => ?_, fun j v y hj hy => ?_⟩
  · rw [Array.getElem?_extract] at hj
    split at hj
    · exact h.one _ _ hj
    · cases hj
  · rw [Array.getElem?_extract] at hj
    split at hj
    · rename_i hlt
      rw [List.getElem?_take_of_lt (by omega), List.getElem?_drop] at hy
      exact h.rel _ _ _ hj hy
    · cases hj

theorem s_fld (R : Rep X s own a w) (o : Oper) (t : TypeId) (p : Operand) (f : Nat) (ho : o.op = .field t p f) (op : AOp) (hc : comp X.P o = some op) (h : op.step s own K) : Out X own w (execOp a.eval o) K := by
  have hp := R.od p
  simp only [comp, ho] at hc
  cases hu : X.P.underlying t with
  | none => simp [hu] at hc
  | some d =>
    cases d with
    | struct fs =>
      simp only [hu] at hc
      cases hf : fs[f]? with
      | none => simp [hf] at hc
      | some fd =>
        simp only [hf, Option.bind_some] at hc
        split at hc
        · rename_i hagg
          cases hi : X.P.info? fd.type with
          | none => simp [hi] at hc
          | some i =>
            simp only [hi, Option.map_some, Option.some.injEq] at hc
            subst hc
            simp only [AOp.step] at h
            cases hv : (od p).ev s with
            | agg cs =>
              rw [hv] at hp h
              generalize hep : a.eval p = v at hp
              cases hp with
              | agg vs _ hl hoo hr =>
                obtain ⟨d, hd⟩ := aggB_some hagg
                obtain ⟨hle, hK⟩ := h
                refine .value hK (v := .agg (vs.extract fd.offset (fd.offset + i.size))) (relC_part ⟨hl, hoo, hr⟩ _ _ hle).relAgg (fun w' _ => ?_)
                simp [execOp, ho, hep, Instr.field, run_underlying hu, hf, asAgg, part, run_isAgg hd, hagg, run_size hi]
            | _ => simp [hv] at h
        · rename_i hagg
          split at hc
          · rename_i hsome
            obtain ⟨d, hd⟩ := Option.isSome_iff_exists.1 hsome
            simp only [Option.some.injEq] at hc
            subst hc
            simp only [AOp.step] at h
            cases hv : (od p).ev s with
            | agg cs =>
              rw [hv] at hp h
              generalize hep : a.eval p = v at hp
              cases hp with
              | agg vs _ hl hoo hr =>
                obtain ⟨hle, hK⟩ := h
                have hx : cs[fd.offset]? = some cs[fd.offset] := List.getElem?_eq_getElem (by omega)
                have hw : vs[fd.offset]? = some vs[fd.offset] := Array.getElem?_eq_getElem (by omega)
                have hmk : mk false ((cs.drop fd.offset).take 1) = cs[fd.offset] := by
                  rw [show (cs.drop fd.offset).take 1 = [cs[fd.offset]] from by
                    rw [List.drop_eq_getElem_cons (by omega)]; rfl]
                  rfl
                rw [hmk] at hK
                refine .value hK (v := vs[fd.offset]) (hr _ _ _ hw hx) (fun w' _ => ?_)
                simp [execOp, ho, hep, Instr.field, run_underlying hu, hf, asAgg, part, run_isAgg hd, hagg, hw]
            | _ => simp [hv] at h
          · cases hc
    | _ => simp [hu] at hc

theorem mapM_some {α β : Type} (f : α → Option β) : ∀ (l : List α) (r : List β), l.mapM f = some r → r.length = l.length ∧ ∀ (j : Nat) x y, l[j]? = some x → r[j]? = some y → f x = some y
  | [], r, h => by simp at h; subst h; simp
  | x :: l, r, h => by
    simp only [List.mapM_cons, Option.bind_eq_bind, Option.pure_def] at h
    cases hx : f x with
    | none => simp [hx] at h
    | some y =>
      cases hl : l.mapM f with
      | none => simp [hx, hl] at h
      | some r' =>
        simp [hx, hl] at h
        subst h
        obtain ⟨h1, h2⟩ := mapM_some f l r' hl
        refine ⟨by simp [h1], fun j u v hu hv => ?_⟩
        cases j with
        | zero => simp at hu hv; subst hu hv; exact hx
        | succ j => exact h2 j u v (by simpa using hu) (by simpa using hv)

theorem mapM_all {α β : Type} (f : α → Option β) : ∀ (l : List α), (∀ x ∈ l, (f x).isSome = true) → ∃ r, l.mapM f = some r
  | [], _ => ⟨[], rfl⟩
  | x :: l, h => by
    obtain ⟨y, hy⟩ := Option.isSome_iff_exists.1 (h x (by simp))
    obtain ⟨r, hr⟩ := mapM_all f l (fun z hz => h z (by simp [hz]))
    exact ⟨y :: r, by simp [List.mapM_cons, hy, hr]⟩

theorem zeros_some {P : Program} {t : TypeId} {f : List AV → Option AOp} {op : AOp} (h : zeros P t f = some op) : ∃ j z, P.info? t = some j ∧ j.zero = some z ∧ z.cells.toList.all (·.oneCell') = true ∧ f (z.cells.toList.map avOf) = some op := by
  unfold zeros at h
  cases hi : P.info? t with
  | none => simp [hi] at h
  | some j =>
    cases hz : j.zero with
    | none => simp [hi, hz] at h
    | some z =>
      simp only [hi, hz] at h
      split at h
      · rename_i hall
        exact ⟨j, z, rfl, hz, hall, h⟩
      · cases h

theorem s_bld (R : Rep X s own a w) (o : Oper) (t : TypeId) (ps : Array (Nat × Operand)) (ho : o.op = .build t ps) (op : AOp) (hc : comp X.P o = some op) (h : op.step s own K) : Out X own w (execOp a.eval o) K := by
  simp only [comp, ho] at hc
  have main : ∀ (j : TypeInfo) (z : Value) (pl : Nat → Option (Nat × Nat)) (l : List (Nat × Nat × Od)), X.P.info? t = some j → j.zero = some z → z.cells.toList.all (·.oneCell') = true →
      parts X.P t ps.toList = some l → op = .bld (z.cells.toList.map avOf) l → (∀ i, place X.P t i = pl i) →
      (∀ vals cells, Instr.fill pl z.cells vals = some cells → X.P.built t vals = some cells) → Out X own w (execOp a.eval o) K := by
    intro j z pl l hi hz hall hl hop hpl hb
    subst hop
    simp only [AOp.step] at h
    obtain ⟨hll, hlm⟩ := mapM_some _ _ _ hl
    generalize hq : l.map (fun p => (p.1, p.2.1, p.2.2.ev s)) = qs at h
    cases hfa : fillA (z.cells.toList.map avOf) qs with
    | none => simp [hfa] at h
    | some cs =>
      simp only [hfa] at h
      have hpart : ∀ (jj : Nat) (p : Nat × Value) (q : Nat × Nat × AV), (ps.toList.map fun x => (x.1, a.eval x.2))[jj]? = some p → qs[jj]? = some q → pl p.1 = some (q.1, q.2.1) ∧ Rel (Fo X.fr own) w p.2 q.2.2 := by
        intro jj p q hp hq'
        subst hq
        simp only [List.getElem?_map] at hp hq'
        cases hps : ps.toList[jj]? with
        | none => simp [hps] at hp
        | some x =>
          cases hls : l[jj]? with
          | none => simp [hls] at hq'
          | some y =>
            simp only [hps, hls, Option.map_some, Option.some.injEq] at hp hq'
            subst hp hq'
            have := hlm jj x y hps hls
            cases hplc : place X.P t x.1 with
            | none => simp [hplc] at this
            | some pp =>
              simp only [hplc, Option.map_some, Option.some.injEq] at this
              subst this
              exact ⟨by rw [← hpl, hplc], R.od x.2⟩
      obtain ⟨cv, hcv, hrc⟩ := RelC.fill (F := Fo X.fr own) (w := w) pl (ps.toList.map fun x => (x.1, a.eval x.2)) qs z.cells _ cs (relC_zeros _ w z hall) (by subst hq; simp [hll]) hpart hfa
      have hbt := hb _ _ hcv
      refine .value h (v := .agg cv) hrc.relAgg (fun w' _ => ?_)
      have hrun := run_build w' t (ps.map fun x => (x.1, a.eval x.2)) cv (by rw [Array.toList_map]; exact hbt)
      simp [execOp, ho, hrun]
  cases hu : X.P.underlying t with
  | none => simp [hu] at hc
  | some d =>
    cases d with
    | struct fs =>
      simp only [hu] at hc
      split at hc
      · rename_i hfs
        obtain ⟨j, z, hi, hz, hall, hf⟩ := zeros_some hc
        cases hl : parts X.P t ps.toList with
        | none => simp [hl] at hf
        | some l =>
          simp only [hl, Option.map_some, Option.some.injEq] at hf
          obtain ⟨places, hpl⟩ := mapM_all (fun f : Field => (X.P.info? f.type).map fun i => (f.offset, i.size)) fs.toList (fun f hf => by
            have := List.all_eq_true.1 hfs f hf
            cases hh : X.P.info? f.type with
            | none => simp [hh] at this
            | some i => rfl)
          obtain ⟨hp1, hp2⟩ := mapM_some _ _ _ hpl
          refine main j z (places.toArray[·]?) l hi hz hall hl hf.symm (fun i => ?_) (fun vals cells hv => ?_)
          · unfold place
            simp only [hu]
            cases hfi : fs[i]? with
            | none =>
              have : places.length ≤ i := by
                have := Array.getElem?_eq_none_iff.1 hfi
                rw [hp1]; simpa using this
              simp [this]
            | some f =>
              have hlt : i < places.length := by
                have := (Array.getElem?_eq_some_iff.1 hfi).1
                rw [hp1]; simpa using this
              have := hp2 i f places[i] (by simpa using hfi) (List.getElem?_eq_getElem hlt)
              simp [this, hlt]
          · unfold Program.built
            simp only [hi, hu, hz, hpl]
            exact hv
      · cases hc
    | array n e =>
      simp only [hu] at hc
      split at hc
      · rename_i hsome
        obtain ⟨ie, hie⟩ := Option.isSome_iff_exists.1 hsome
        obtain ⟨j, z, hi, hz, hall, hf⟩ := zeros_some hc
        cases hl : parts X.P t ps.toList with
        | none => simp [hl] at hf
        | some l =>
          simp only [hl, Option.map_some, Option.some.injEq] at hf
          refine main j z (fun i => some (i * ie.size, ie.size)) l hi hz hall hl hf.symm (fun i => ?_) (fun vals cells hv => ?_)
          · unfold place
            simp [hu, hie]
          · unfold Program.built
            simp only [hi, hu, hz, hie]
            exact hv
      · cases hc
    | _ => simp [hu] at hc
end
end Go.Aw
