/- Operations that only read: the soundness of 'AOp.step'. -/
import Derived.Test.YtkmnhomehejppaaAwPureS
set_option linter.unusedSimpArgs false
set_option linter.unusedVariables false
set_option linter.deprecated false
namespace Go.Aw

def Out (X : Cx) (own : Own) (w : World) (m : Sem Next) (K : AV → Prop) : Prop :=
  ∃ v x, K x ∧ Rel (Fo X.fr own) w v x ∧ Gives X.P X.fr w m v

section
variable {X : Cx} {s : Slots} {own : Own} {a : Act} {w : World} {K : AV → Prop}

theorem Out.value {v : Value} {x : AV} {m : Sem Next} (hK : K x) (hr : Rel (Fo X.fr own) w v x) (h : ∀ w', Same X.fr w w' → m.run X.P w' = .ok (.value v) w') : Out X own w m K := ⟨v, x, hK, hr, h⟩

theorem s_mov (R : Rep X s own a w) (o : Oper) (x : Operand) (ho : execOp a.eval o = pure (.value (a.eval x))) (h : (AOp.mov (od x)).step s own K) : Out X own w (execOp a.eval o) K := by
  rw [ho]
  exact .value h (R.od x) (fun w' _ => rfl)

theorem s_pick (R : Rep X s own a w) (o : Oper) (c x y : Operand) (ho : o.op = .pick c x y) (h : (AOp.pick (od c) (od x) (od y)).step s own K) : Out X own w (execOp a.eval o) K := by
  have hc := R.od c
  simp only [AOp.step] at h
  cases hv : (od c).ev s with
  | bool t =>
    rw [hv] at hc h
    cases hcv : a.eval c with
    | bool t' =>
      rw [hcv] at hc
      cases hc
      refine .value h (v := if t then a.eval x else a.eval y) ?_ (fun w' _ => ?_)
      · cases t
        · exact R.od y
        · exact R.od x
      · simp [execOp, ho, hcv, asBool]
    | _ => rw [hcv] at hc; cases hc
  | _ => simp [hv] at h

theorem s_load (R : Rep X s own a w) (o : Oper) (t : TypeId) (p : Operand) (ho : o.op = .load t p) (op : AOp) (hc : comp X.P o = some op) (h : op.step s own K) : Out X own w (execOp a.eval o) K := by
  have hp := R.od p
  simp only [comp, ho] at hc
  have hrun : ∀ w', (execOp a.eval o).run X.P w' = ((Instr.loadAt t (a.eval p)).run X.P w').andThen fun v w' => .ok (.value v) w' := fun w' => by
    simp [execOp, ho]
  split at hc
  · rename_i hagg
    cases hi : X.P.info? t with
    | none => simp [hi] at hc
    | some i =>
      simp only [hi, Option.map_some, Option.some.injEq] at hc
      subst hc
      simp only [AOp.step] at h
      obtain ⟨b, o', cs, vs, hv, hK, hvl, hcl, hb, hcell, hrel⟩ := addr_cells (K := fun cs => K (mk true cs)) R hp h
      refine .value hK (v := .agg vs.toArray) ?_ (fun w' hw => ?_)
      · exact rel_mk (by omega) (fun j v hj => (hcell j v hj).2) hrel
      · rw [hrun, hv]
        simp only [Instr.loadAt, Instr.sureAddr, pure_bind]
        rw [loadVar_agg hagg hi w' b o' vs hvl (fun j v hj => (hw.cell hb).trans (hcell j v hj).1)]
        rfl
  · rename_i hagg
    split at hc
    · rename_i hsome
      obtain ⟨d, hd⟩ := Option.isSome_iff_exists.1 hsome
      simp only [Option.some.injEq] at hc
      subst hc
      simp only [AOp.step] at h
      obtain ⟨b, o', cs, vs, hv, hK, hvl, hcl, hb, hcell, hrel⟩ := addr_cells (K := fun cs => K (mk false cs)) R hp h
      obtain ⟨v, rfl⟩ := List.length_eq_one_iff.1 hvl
      obtain ⟨x, rfl⟩ := List.length_eq_one_iff.1 hcl
      refine .value hK (v := v) (hrel 0 v x rfl rfl) (fun w' hw => ?_)
      rw [hrun, hv]
      simp only [Instr.loadAt, Instr.sureAddr, pure_bind]
      rw [loadVar_one (by simpa using hagg) hd w' b o' v ((hw.cell hb).trans (hcell 0 v rfl).1)]
      rfl
    · cases hc

theorem s_fadr (R : Rep X s own a w) (o : Oper) (t : TypeId) (p : Operand) (f : Nat) (ho : o.op = .fieldAddr t p f) (op : AOp) (hc : comp X.P o = some op) (h : op.step s own K) : Out X own w (execOp a.eval o) K := by
  have hp := R.od p
  simp only [comp, ho] at hc
  cases hu : X.P.underlying t with
  | none => simp [hu] at hc
  | some d =>
    cases d with
    | struct fs =>
      simp only [hu] at hc
      cases hf : fs[f]? with
      | none => simp [hf] at hc
      | some fd =>
        cases hi : X.P.info? fd.type with
        | none => simp [hf, hi] at hc
        | some i =>
          by_cases hz : i.size = 0
          · simp [hf, hi, hz] at hc
          · simp only [hf, hi, hz, Option.bind_some, if_false, Option.some.injEq] at hc
            subst hc
            simp only [AOp.step] at h
            have key : ∀ b o', a.eval p = .pointer (some ⟨b, o', none⟩) → ∀ w', (execOp a.eval o).run X.P w' = .ok (.value (.pointer (some ⟨b, o' + fd.offset, none⟩))) w' := by
              intro b o' he w'
              simp [execOp, ho, he, Instr.fieldAt, run_underlying hu, hf, Instr.sureAddr, fieldPlace, run_size hi, hz, add_at]
            cases hv : (od p).ev s with
            | ptr k b o' =>
              rw [hv] at hp h
              generalize hep : a.eval p = v at hp
              cases hp
              exact .value h (.ptr _ _ _) (fun w' _ => key _ _ hep w')
            | ref cs =>
              rw [hv] at hp h
              generalize hep : a.eval p = v at hp
              cases hp with
              | ref b o' cs cv hF hb hcc hoo hrr =>
                refine .value h (.ref b (o' + fd.offset) _ (fun j => cv (fd.offset + j)) hF hb ?_ ?_ ?_) (fun w' _ => key _ _ hep w')
                · intro j y hj
                  rw [List.getElem?_drop] at hj
                  rw [Nat.add_assoc]
                  exact hcc _ _ hj
                · intro j y hj
                  rw [List.getElem?_drop] at hj
                  exact hoo _ _ hj
                · intro j y hj
                  rw [List.getElem?_drop] at hj
                  exact hrr _ _ hj
            | _ => simp [hv] at h
    | _ => simp [hu] at hc

theorem s_iadr (R : Rep X s own a w) (o : Oper) (t : TypeId) (p q : Operand) (ho : o.op = .indexAddr t p q) (op : AOp) (hc : comp X.P o = some op) (h : op.step s own K) : Out X own w (execOp a.eval o) K := by
  have hp := R.od p
  have hq := R.od q
  simp only [comp, ho] at hc
  cases hu : X.P.underlying t with
  | none => simp [hu] at hc
  | some d =>
    cases d with
    | slice e =>
      simp only [hu] at hc
      cases hi : X.P.info? e with
      | none => simp [hi] at hc
      | some i =>
        simp only [hi, Option.map_some, Option.some.injEq] at hc
        subst hc
        have key : ∀ b o' n cap k (m : Int), a.eval p = .slice (some ⟨b, o', none⟩) n cap → a.eval q = .int k m → 0 ≤ m → m < n → ∀ w', (execOp a.eval o).run X.P w' = .ok (.value (.pointer (some ⟨b, o' + m.toNat * i.size, none⟩))) w' := by
          intro b o' n cap k m he hq h0 h1 w'
          simp [execOp, ho, he, hq, Instr.indexAt, asIntOf, run_underlying hu, run_size hi, h0, h1, add_at]
        simp only [AOp.step] at h
        cases hv : (od p).ev s with
        | sl xs =>
          cases hv2 : (od q).ev s with
          | int k m =>
            rw [hv] at hp h
            rw [hv2] at hq h
            obtain ⟨h0, h1, h2, h3⟩ := h
            generalize hep : a.eval p = v at hp
            generalize heq : a.eval q = u at hq
            cases hq
            cases hp with
            | slnil => simp at h1; omega
            | sl0 a0 cap => simp at h1; omega
            | sl b o' n cap s' xs cv hF hb hlen hn hs hcc hoo hrr =>
              have hm : m.toNat < xs.length := by omega
              have hx : xs[m.toNat]? = some (xs.getD m.toNat .any) := by simp [List.getD, List.getElem?_eq_getElem hm]
              have hss : s' = i.size := by rw [← h2]; exact (hs _ _ hx).symm
              refine .value h3 (.ref b (o' + m.toNat * i.size) _ (fun j => cv (m.toNat * s' + j)) hF hb ?_ ?_ ?_) (fun w' _ => key b o' n cap k m hep heq h0 (by omega) w')
              · intro j y hj
                rw [← hss]
                exact hcc _ _ _ _ hx hj
              · intro j y hj
                exact hoo _ _ _ _ hx hj
              · intro j y hj
                exact hrr _ _ _ _ hx hj
          | _ => simp [hv, hv2] at h
        | row kk b o' n z =>
          cases hv2 : (od q).ev s with
          | int k m =>
            rw [hv] at hp h
            rw [hv2] at hq h
            obtain ⟨h0, h1, h3⟩ := h
            generalize hep : a.eval p = v at hp
            generalize heq : a.eval q = u at hq
            cases hq
            cases hp
            exact .value h3 (.ptr _ _ _) (fun w' _ => key _ _ _ _ _ _ hep heq h0 h1 w')
          | _ => simp [hv, hv2] at h
        | _ => simp [hv] at h
    | array nn e =>
      simp only [hu] at hc
      cases hi : X.P.info? e with
      | none => simp [hi] at hc
      | some i =>
        simp only [hi, Option.map_some, Option.some.injEq] at hc
        subst hc
        have key : ∀ b o' k (m : Int), a.eval p = .pointer (some ⟨b, o', none⟩) → a.eval q = .int k m → 0 ≤ m → m < nn → ∀ w', (execOp a.eval o).run X.P w' = .ok (.value (.pointer (some ⟨b, o' + m.toNat * i.size, none⟩))) w' := by
          intro b o' k m he hq h0 h1 w'
          simp [execOp, ho, he, hq, Instr.indexAt, asIntOf, run_underlying hu, run_size hi, h0, h1, add_at, Instr.sureAddr]
        simp only [AOp.step] at h
        cases hv : (od p).ev s with
        | ptr kk b o' =>
          cases hv2 : (od q).ev s with
          | int k m =>
            rw [hv] at hp h
            rw [hv2] at hq h
            obtain ⟨h0, h1, h3⟩ := h
            generalize hep : a.eval p = v at hp
            generalize heq : a.eval q = u at hq
            cases hq
            cases hp
            exact .value h3 (.ptr _ _ _) (fun w' _ => key _ _ _ _ hep heq h0 h1 w')
          | _ => simp [hv, hv2] at h
        | ref cs =>
          cases hv2 : (od q).ev s with
          | int k m =>
            rw [hv] at hp h
            rw [hv2] at hq h
            obtain ⟨h0, h1, h3⟩ := h
            generalize hep : a.eval p = v at hp
            generalize heq : a.eval q = u at hq
            cases hq
            cases hp with
            | ref b o' cs cv hF hb hcc hoo hrr =>
              refine .value h3 (.ref b (o' + m.toNat * i.size) _ (fun j => cv (m.toNat * i.size + j)) hF hb ?_ ?_ ?_) (fun w' _ => key _ _ _ _ hep heq h0 h1 w')
              · intro j y hj
                rw [List.getElem?_drop] at hj
                rw [Nat.add_assoc]
                exact hcc _ _ hj
              · intro j y hj
                rw [List.getElem?_drop] at hj
                exact hoo _ _ hj
              · intro j y hj
                rw [List.getElem?_drop] at hj
                exact hrr _ _ hj
          | _ => simp [hv, hv2] at h
        | _ => simp [hv] at h
    | _ => simp [hu] at hc
end
end Go.Aw
