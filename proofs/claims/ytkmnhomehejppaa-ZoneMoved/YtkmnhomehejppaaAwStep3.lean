/- Operations that only read, the last ones; and all together. -/
import Derived.Test.YtkmnhomehejppaaAwStep2
import Derived.Laws.Strings
import Derived.Laws.StructEq
set_option linter.unusedSimpArgs false
set_option linter.unusedVariables false
set_option linter.deprecated false
namespace Go.Aw

section
variable {X : Cx} {s : Slots} {own : Own} {a : Act} {w : World} {K : AV → Prop}

theorem run_eqGuard_int {P : Program} (op : BinOp) (t : TypeId) (x y : Operand) (k k' : IntKind) (u v : Int) (w : World) : (eqGuard op t x y (.int k u) (.int k' v)).run P w = .ok () w := by
  unfold eqGuard
  simp only
  split <;> rfl
theorem run_eqGuard_str {P : Program} (op : BinOp) (t : TypeId) (x y : Operand) (u v : ByteArray) (w : World) : (eqGuard op t x y (.string u) (.string v)).run P w = .ok () w := by
  unfold eqGuard
  simp only
  split <;> rfl
theorem run_eqGuard_bool {P : Program} (op : BinOp) (t : TypeId) (x y : Operand) (u v : Bool) (w : World) : (eqGuard op t x y (.bool u) (.bool v)).run P w = .ok () w := by
  unfold eqGuard
  simp only
  split <;> rfl

theorem binI_out {P : Program} {F : Nat → Prop} (op : BinOp) (k : IntKind) (x y : Int) (h : binI op k x y K) (t : TypeId) : ∃ v z, K z ∧ Rel F w v z ∧ ∀ w', (binOp op t (.int k x) (.int k y)).run P w' = .ok v w' := by
  cases op <;> simp only [binI] at h <;> try (exact h.elim)
  case add => exact ⟨_, _, h, .int _ _, fun w' => by simp [binOp, Op.intArith]⟩
  case sub => exact ⟨_, _, h, .int _ _, fun w' => by simp [binOp, Op.intArith]⟩
  case mul => exact ⟨_, _, h, .int _ _, fun w' => by simp [binOp, Op.intArith]⟩
  case quo => exact ⟨_, _, h.2, .int _ _, fun w' => by simp [binOp, Op.intDiv, h.1]⟩
  case rem => exact ⟨_, _, h.2, .int _ _, fun w' => by simp [binOp, Op.intDiv, h.1]⟩
  case eql => exact ⟨_, _, h, .bool _, fun w' => by simp [binOp, Op.intCmp]; rfl⟩
  case neq => exact ⟨_, _, h, .bool _, fun w' => by simp [binOp, Op.intCmp]; rfl⟩
  case lss => exact ⟨_, _, h, .bool _, fun w' => by simp [binOp, Op.intCmp]⟩
  case leq => exact ⟨_, _, h, .bool _, fun w' => by simp [binOp, Op.intCmp]⟩
  case gtr => exact ⟨_, _, h, .bool _, fun w' => by simp [binOp, Op.intCmp]⟩
  case geq => exact ⟨_, _, h, .bool _, fun w' => by simp [binOp, Op.intCmp]⟩

theorem binS_out {P : Program} {F : Nat → Prop} (op : BinOp) (x y : List UInt8) (h : binS op x y K) (t : TypeId) : ∃ v z, K z ∧ Rel F w v z ∧ ∀ w', (binOp op t (.string ⟨x.toArray⟩) (.string ⟨y.toArray⟩)).run P w' = .ok v w' := by
  have tl : ∀ l : List UInt8, (ByteArray.mk l.toArray).toList = l := fun l => by
    rw [ByteArray.toList_eq]
  have sz : ∀ l : List UInt8, (ByteArray.mk l.toArray).size = l.length := fun l => by
    simp [ByteArray.size]
  cases op <;> simp only [binS] at h <;> try (exact h.elim)
  case add =>
    refine ⟨_, _, h.2, .str _, fun w' => ?_⟩
    have h1 := h.1
    have hap : ByteArray.mk x.toArray ++ ByteArray.mk y.toArray = ByteArray.mk (x ++ y).toArray := by
      apply ByteArray.ext
      simp
    have hmax : IntKind.i64.max = 9223372036854775807 := by decide
    simp only [binOp, Op.stringOp, sz, hmax]
    rw [if_neg (by omega)]
    simp [hap]
  case eql =>
    refine ⟨_, _, h, .bool _, fun w' => ?_⟩
    have hb : (x == y) = decide (x = y) := by rw [Bool.eq_iff_iff]; simp
    simp only [binOp, Op.stringOp, tl, hb]
    rfl
  case neq =>
    refine ⟨_, _, h, .bool _, fun w' => ?_⟩
    have hb : (x == y) = decide (x = y) := by rw [Bool.eq_iff_iff]; simp
    simp only [binOp, Op.stringOp, tl, hb]
    rfl
  case lss =>
    refine ⟨_, _, h, .bool _, fun w' => ?_⟩
    simp only [binOp, Op.stringOp, tl]
    simp

theorem s_bin (R : Rep X s own a w) (o : Oper) (bo : BinOp) (t t' : TypeId) (p q : Operand) (ho : o.op = .binOp bo t p q t') (h : (AOp.bin bo (od p) (od q)).step s own K) : Out X own w (execOp a.eval o) K := by
  have hp := R.od p
  have hq := R.od q
  simp only [AOp.step] at h
  cases hv : (od p).ev s with
  | int k x =>
    cases hv2 : (od q).ev s with
    | int k' y =>
      rw [hv] at hp h
      rw [hv2] at hq h
      obtain ⟨rfl, h⟩ := h
      generalize hep : a.eval p = v at hp
      generalize heq : a.eval q = u at hq
      cases hp
      cases hq
      obtain ⟨v, z, hK, hr, hrun⟩ := binI_out (P := X.P) (F := Fo X.fr own) (w := w) bo k x y h t
      refine .value hK hr (fun w' _ => ?_)
      simp [execOp, ho, hep, heq, run_eqGuard_int, run_eqGuard_str, hrun]
    | _ => simp [hv, hv2] at h
  | str x =>
    cases hv2 : (od q).ev s with
    | str y =>
      rw [hv] at hp h
      rw [hv2] at hq h
      generalize hep : a.eval p = v at hp
      generalize heq : a.eval q = u at hq
      cases hp
      cases hq
      obtain ⟨v, z, hK, hr, hrun⟩ := binS_out (P := X.P) (F := Fo X.fr own) (w := w) bo x y h t
      refine .value hK hr (fun w' _ => ?_)
      simp [execOp, ho, hep, heq, run_eqGuard_int, run_eqGuard_str, hrun]
    | _ => simp [hv, hv2] at h
  | _ => simp [hv] at h

theorem s_binB (R : Rep X s own a w) (o : Oper) (bo : BinOp) (t t' : TypeId) (p q : Operand) (ho : o.op = .binOp bo t p q t') (hu : X.P.underlying t = some .bool) (h : (AOp.binB bo (od p) (od q)).step s own K) : Out X own w (execOp a.eval o) K := by
  have hp := R.od p
  have hq := R.od q
  simp only [AOp.step] at h
  cases hv : (od p).ev s with
  | bool x =>
    cases hv2 : (od q).ev s with
    | bool y =>
      rw [hv] at hp h
      rw [hv2] at hq h
      generalize hep : a.eval p = v at hp
      generalize heq : a.eval q = u at hq
      cases hp
      cases hq
      have heql : ∀ w', (Op.equal t (.bool x) (.bool y)).run X.P w' = .ok (x == y) w' := fun w' => by
        exact run_equalIn_bool' w' 9999 t x y hu
      cases bo <;> try (exact h.elim)
      case eql => exact .value h (.bool _) (fun w' _ => by simp [execOp, ho, hep, heq, run_eqGuard_bool, binOp, heql])
      case neq => exact .value h (.bool _) (fun w' _ => by simp [execOp, ho, hep, heq, run_eqGuard_bool, binOp, heql])
    | _ => cases bo <;> simp [hv, hv2] at h
  | _ => cases bo <;> simp [hv] at h

theorem s_un (R : Rep X s own a w) (o : Oper) (uo : UnOp) (t : TypeId) (p : Operand) (ho : o.op = .unOp uo t p) (h : (AOp.un uo (od p)).step s own K) : Out X own w (execOp a.eval o) K := by
  have hp := R.od p
  simp only [AOp.step] at h
  cases uo <;> cases hv : (od p).ev s <;> rw [hv] at h hp <;> simp only [unV] at h <;> try (exact h.elim)
  · generalize hep : a.eval p = v at hp
    cases hp
    refine .value h (.int _ _) (fun w' _ => ?_)
    simp [execOp, ho, hep, Op.unary, Op.intArith]
  · generalize hep : a.eval p = v at hp
    cases hp
    exact .value h (.bool _) (fun w' _ => by simp [execOp, ho, hep, Op.unary])

theorem s_conv (R : Rep X s own a w) (o : Oper) (t t' : TypeId) (p : Operand) (ho : o.op = .convert t t' p) (k k' : IntKind) (hu : X.P.underlying t = some (.int k')) (hu' : X.P.underlying t' = some (.int k)) (h : (AOp.conv k (od p)).step s own K) : Out X own w (execOp a.eval o) K := by
  have hp := R.od p
  simp only [AOp.step] at h
  cases hv : (od p).ev s with
  | int k2 n =>
    rw [hv] at hp h
    generalize hep : a.eval p = v at hp
    cases hp
    exact .value h (.int _ _) (fun w' _ => by simp [execOp, ho, hep, convert, run_underlying hu, run_underlying hu', Conv.intToInt])
  | _ => simp [hv] at h

theorem s_ext (R : Rep X s own a w) (o : Oper) (p : Operand) (i : Nat) (ho : o.op = .extract p i) (h : (AOp.ext i (od p)).step s own K) : Out X own w (execOp a.eval o) K := by
  have hp := R.od p
  simp only [AOp.step] at h
  cases hv : (od p).ev s with
  | tup vs =>
    rw [hv] at hp h
    obtain ⟨hi, h⟩ := h
    generalize hep : a.eval p = v at hp
    cases hp with
    | tup us _ hl hr =>
      have hx : vs[i]? = some (vs.getD i .any) := by simp [List.getD, List.getElem?_eq_getElem hi]
      have hy : us[i]? = some us[i] := Array.getElem?_eq_getElem (by omega)
      exact .value h (hr _ _ _ hy hx) (fun w' _ => by simp [execOp, ho, hep, Instr.extract, hy])
  | _ => simp [hv] at h

theorem s_len (R : Rep X s own a w) (o : Oper) (p : Operand) (t : TypeId) (c : Call) (ho : o.op = .call c) (hb : c.callee = .builtin .len) (ha : c.args = #[p]) (hts : c.argTypes = #[t]) (op : AOp)
    (hc : compB X.P .len [p] [t] = some op) (h : op.step s own K) : Out X own w (execOp a.eval o) K := by
  have hp := R.od p
  have hrun : ∀ w', (execOp a.eval o).run X.P w' = ((Builtin.len_ #[t] o.type #[a.eval p]).run X.P w').andThen fun v w' => .ok (.value v) w' := fun w' => by
    simp [execOp, ho, resolve, hb, ha, hts, invoke, builtin]
  simp only [compB] at hc
  cases hu : X.P.underlying t with
  | none => simp [hu] at hc
  | some d =>
    cases d with
    | slice e =>
      simp only [hu, Option.some.injEq] at hc
      subst hc
      simp only [AOp.step] at h
      cases hv : (od p).ev s with
      | sl xs =>
        rw [hv] at hp h
        generalize hep : a.eval p = v at hp
        cases hp with
        | slnil => exact .value h (.int _ _) (fun w' _ => by rw [hrun]; simp [hep, Builtin.len_, run_underlying hu, goInt])
        | sl0 a0 cap => exact .value h (.int _ _) (fun w' _ => by rw [hrun]; simp [hep, Builtin.len_, run_underlying hu, goInt])
        | sl b o' n cap s' _ cv hF hb hlen =>
          subst hlen
          exact .value h (.int _ _) (fun w' _ => by rw [hrun]; simp [hep, Builtin.len_, run_underlying hu, goInt])
      | row k b o' n z =>
        rw [hv] at hp h
        generalize hep : a.eval p = v at hp
        cases hp
        exact .value h (.int _ _) (fun w' _ => by rw [hrun]; simp [hep, Builtin.len_, run_underlying hu, goInt])
      | nil =>
        rw [hv] at hp h
        generalize hep : a.eval p = v at hp
        cases hp
        exact .value h (.int _ _) (fun w' _ => by rw [hrun]; simp [hep, Builtin.len_, run_underlying hu, goInt])
      | _ => simp [hv] at h
    | string =>
      simp only [hu, Option.some.injEq] at hc
      subst hc
      simp only [AOp.step] at h
      cases hv : (od p).ev s with
      | str l =>
        rw [hv] at hp h
        generalize hep : a.eval p = v at hp
        cases hp
        exact .value h (.int _ _) (fun w' _ => by rw [hrun]; simp [hep, Builtin.len_, run_underlying hu, goInt]; rfl)
      | _ => simp [hv] at h
    | array n e =>
      simp only [hu, Option.some.injEq] at hc
      subst hc
      exact .value h (.int _ _) (fun w' _ => by rw [hrun]; simp [Builtin.len_, run_underlying hu, goInt])
    | _ => simp [hu] at hc

theorem s_idxS (R : Rep X s own a w) (o : Oper) (t : TypeId) (p q : Operand) (ho : o.op = .index t p q) (hu : X.P.underlying t = some .string) (h : (AOp.idxS (od p) (od q)).step s own K) : Out X own w (execOp a.eval o) K := by
  have hp := R.od p
  have hq := R.od q
  simp only [AOp.step] at h
  cases hv : (od p).ev s with
  | str l =>
    cases hv2 : (od q).ev s with
    | int k n =>
      rw [hv] at hp h
      rw [hv2] at hq h
      obtain ⟨h0, h1, h⟩ := h
      generalize hep : a.eval p = v at hp
      generalize heq : a.eval q = u at hq
      cases hp
      cases hq
      have hlt : n.toNat < l.length := by omega
      refine .value h (.int _ _) (fun w' _ => ?_)
      have hg : (ByteArray.mk l.toArray)[n.toNat]? = some l[n.toNat] := by
        rw [getElem?_pos (ByteArray.mk l.toArray) n.toNat (by simpa [ByteArray.size] using hlt)]
        rfl
      simp [execOp, ho, hep, heq, Instr.index, asIntOf, run_underlying hu, h0, hg, List.getD, List.getElem?_eq_getElem hlt]
    | _ => simp [hv, hv2] at h
  | _ => simp [hv] at h

theorem relL_map (R : Rep X s own a w) (l : Array Operand) : (l.map a.eval).size = ((l.toList.map od).map (·.ev s)).length ∧ ∀ (j : Nat) (v : Value) (y : AV), (l.map a.eval)[j]? = some v → ((l.toList.map od).map (·.ev s))[j]? = some y → Rel (Fo X.fr own) w v y := by
  refine ⟨by simp, fun j v y hv hy => ?_⟩
  simp only [Array.getElem?_map, List.getElem?_map, Array.getElem?_toList] at hv hy
  cases hl : l[j]? with
  | none => simp [hl] at hv
  | some x =>
    simp only [hl, Option.map_some, Option.some.injEq] at hv hy
    subst hv hy
    exact R.od x

theorem s_mkfn (R : Rep X s own a w) (o : Oper) (f : Fn) (p q : Array Operand) (ho : o.op = .makeFunc f p q) (h : (AOp.mkfn f (p.toList.map od) (q.toList.map od)).step s own K) : Out X own w (execOp a.eval o) K := by
  obtain ⟨h1, h2⟩ := relL_map R p
  obtain ⟨h3, h4⟩ := relL_map R q
  exact .value h (.fn f _ _ _ _ h1 h3 h2 h4) (fun w' _ => by simp [execOp, ho, Instr.makeFunc])

theorem sl_take {F : Nat → Prop} {b o n cap sz : Nat} {xs : List AV} (h : Rel F w (.slice (some ⟨b, o, none⟩) n cap) (.sl xs)) (l m : Nat) (hm : m ≤ xs.length) (hlm : l ≤ m) (c : Nat) (hc : m - l ≤ c)
    (o' : Nat) (ho' : l < m → o' = o + l * sz) (hsz : ∀ x, x ∈ xs → x.cells.length = sz) : Rel F w (.slice (some ⟨b, o', none⟩) (m - l) c) (.sl ((xs.take m).drop l)) := by
  cases h with
  | sl0 =>
    have e1 : m - l = 0 := by simp at hm; omega
    have e2 : (([] : List AV).take m).drop l = [] := by simp
    rw [e1, e2]
    exact .sl0 _ _
  | sl _ _ _ _ s' _ cv hF hb hlen hn hs hcc hoo hrr =>
    have hg : ∀ (i : Nat) (x : AV), ((xs.take m).drop l)[i]? = some x → xs[l + i]? = some x ∧ l + i < m := fun i x hx => by
      rw [List.getElem?_drop, List.getElem?_take] at hx
      split at hx
      · exact ⟨hx, by assumption⟩
      · cases hx
    refine .sl b o' _ c s' _ (fun j => cv (l * s' + j)) hF hb (by simp; omega) hc (fun i x hx => hs _ _ (hg i x hx).1) ?_ ?_ ?_
    · intro i x j y hx hy
      obtain ⟨h1, h2⟩ := hg i x hx
      have hss : s' = sz := by rw [← hsz x (List.mem_of_getElem? h1)]; exact (hs _ _ h1).symm
      have := hcc _ _ _ _ h1 hy
      rw [ho' (by omega), ← hss]
      rw [show o + l * s' + i * s' + j = o + (l + i) * s' + j by rw [Nat.add_mul]; omega, this, Nat.add_mul, Nat.add_assoc]
    · intro i x j y hx hy
      obtain ⟨h1, h2⟩ := hg i x hx
      have := hoo _ _ _ _ h1 hy
      rw [Nat.add_mul] at this
      rw [← Nat.add_assoc]
      exact this
    · intro i x j y hx hy
      obtain ⟨h1, h2⟩ := hg i x hx
      have := hrr _ _ _ _ h1 hy
      rw [Nat.add_mul] at this
      rw [← Nat.add_assoc]
      exact this

theorem run_bounds {P : Program} (b : Bool) (len cap : Nat) (lo hi : Option Value) (l h : Nat) (hl : match lo with | none => l = 0 | some v => ∃ k, v = .int k l) (hh : match hi with | none => h = len | some v => ∃ k, v = .int k h)
    (h1 : l ≤ h) (h2 : h ≤ cap) (w : World) : (Instr.sliceBounds b len cap lo hi none).run P w = .ok (l, h, cap) w := by
  unfold Instr.sliceBounds
  cases lo <;> cases hi <;> simp only at hl hh
  · subst hl hh; simp
  · obtain ⟨k, rfl⟩ := hh; subst hl
    simp [Instr.sliceBound, asIntOf, h2]
  · obtain ⟨k, rfl⟩ := hl; subst hh
    simp [Instr.sliceBound, asIntOf, h1]
  · obtain ⟨k, rfl⟩ := hl; obtain ⟨k', rfl⟩ := hh
    simp [Instr.sliceBound, asIntOf, h1, h2]

theorem od_lo (R : Rep X s own a w) (lo : Option Operand) (k : IntKind) (n : Int) (h : ((lo.map od).map (·.ev s)).getD (.int .i64 0) = .int k n) (l : Nat) (hn : n = l) :
    match lo.map a.eval with | none => l = 0 | some v => ∃ k, v = .int k l := by
  cases lo with
  | none => simp at h ⊢; omega
  | some x =>
    have := R.od x
    simp at h
    rw [h] at this
    simp only [Option.map_some]
    generalize a.eval x = v at this
    cases this
    exact ⟨k, by rw [hn]⟩

theorem od_hi (R : Rep X s own a w) (hi : Option Operand) (k : IntKind) (n : Int) (h : (hi.map od).map (·.ev s) = some (.int k n)) (l : Nat) (hn : n = l) (len : Nat) :
    match hi.map a.eval with | none => l = len | some v => ∃ k, v = .int k l := by
  cases hi with
  | none => simp at h
  | some x =>
    have := R.od x
    simp at h
    rw [h] at this
    simp only [Option.map_some]
    generalize a.eval x = v at this
    cases this
    exact ⟨k, by rw [hn]⟩

theorem addr_part (b o l sz m : Nat) : ∃ o', (if m = l then (some (⟨b, o, none⟩ : Addr)) else (some (⟨b, o, none⟩ : Addr)).map (·.add (l * sz))) = some ⟨b, o', none⟩ ∧ ((l < m → o' = o + l * sz) ∧ (l = 0 → o' = o)) := by
  by_cases h : m = l
  · exact ⟨o, by simp [h], fun h' => by omega, fun _ => rfl⟩
  · exact ⟨o + l * sz, by simp [h, add_at], fun _ => rfl, fun h0 => by simp [h0]⟩

theorem s_slc (R : Rep X s own a w) (o : Oper) (t e : TypeId) (p : Operand) (lo hi : Option Operand) (j : TypeInfo) (ho : o.op = .slice t p lo hi none) (hu : X.P.underlying t = some (.slice e)) (hj : X.P.info? e = some j)
    (h : (AOp.slc j.size (od p) (lo.map od) (hi.map od)).step s own K) : Out X own w (execOp a.eval o) K := by
  have hp := R.od p
  simp only [AOp.step] at h
  have hrun : ∀ w', (execOp a.eval o).run X.P w' = ((Instr.slice t (a.eval p) (lo.map a.eval) (hi.map a.eval) none).run X.P w').andThen fun v w' => .ok (.value v) w' := fun w' => by
    simp [execOp, ho, Instr.sliceAt, run_underlying hu]
  have main : ∀ (b o' n cap l h : Nat), a.eval p = .slice (some ⟨b, o', none⟩) n cap → (match lo.map a.eval with | none => l = 0 | some v => ∃ k, v = .int k l) → (match hi.map a.eval with | none => h = n | some v => ∃ k, v = .int k h) → l ≤ h → h ≤ cap →
      ∃ o'' : Nat, ((l < cap → o'' = o' + l * j.size) ∧ (l = 0 → o'' = o')) ∧ ∀ w', (execOp a.eval o).run X.P w' = .ok (.value (.slice (some ⟨b, o'', none⟩) (h - l) (cap - l))) w' := by
    intro b o' n cap l h hep hl hh h1 h2
    obtain ⟨o'', ho1, ho2⟩ := addr_part b o' l j.size cap
    refine ⟨o'', ho2, fun w' => ?_⟩
    rw [hrun, hep]
    simp [Instr.slice, run_underlying hu, run_bounds true n cap _ _ l h hl hh h1 h2, run_size hj, ho1]
    simpa using ho1
  have nilc : ∀ (l h : Nat), a.eval p = .slice none 0 0 → (match lo.map a.eval with | none => l = 0 | some v => ∃ k, v = .int k l) → (match hi.map a.eval with | none => h = 0 | some v => ∃ k, v = .int k h) → l ≤ h → h ≤ 0 →
      ∀ w', (execOp a.eval o).run X.P w' = .ok (.value (.slice none 0 0)) w' := by
    intro l h hep hl hh h1 h2 w'
    have h3 : h = 0 := by omega
    have h4 : l = 0 := by omega
    subst h3 h4
    rw [hrun, hep]
    simp [Instr.slice, run_underlying hu, run_bounds true 0 0 _ _ 0 0 hl hh h1 h2, run_size hj]
  have zc : ∀ (a0 : Addr) (cap l h : Nat), a.eval p = .slice (some a0) 0 cap → (match lo.map a.eval with | none => l = 0 | some v => ∃ k, v = .int k l) → (match hi.map a.eval with | none => h = 0 | some v => ∃ k, v = .int k h) → l ≤ h → h ≤ 0 →
      ∀ w', (execOp a.eval o).run X.P w' = .ok (.value (.slice (some a0) 0 cap)) w' := by
    intro a0 cap l h hep hl hh h1 h2 w'
    have h3 : h = 0 := by omega
    have h4 : l = 0 := by omega
    subst h3 h4
    rw [hrun, hep]
    have hz : a0.add 0 = a0 := by simp [Addr.add]
    simp [Instr.slice, run_underlying hu, run_bounds true 0 cap _ _ 0 0 hl hh (Nat.le_refl _) (Nat.zero_le _), run_size hj, hz]
  cases hv : (od p).ev s with
  | sl xs =>
    cases hlo : ((lo.map od).map (·.ev s)).getD (.int .i64 0) with
    | int k1 l =>
      cases hhi : (hi.map od).map (·.ev s) with
      | none =>
        rw [hv] at hp
        simp only [hv, hlo, hhi] at h
        obtain ⟨hz, h0, h1, h⟩ := h
        have hin : hi.map a.eval = none := by cases hi <;> simp_all
        have hl := od_lo R lo k1 l hlo l.toNat (by omega)
        generalize hep : a.eval p = v at hp
        cases hp with
        | slnil =>
          have := nilc l.toNat 0 hep hl (by simp [hin]) (by simp at h1; omega) (Nat.le_refl _)
          have hd : ([] : List AV).drop l.toNat = [] := by simp
          rw [hd] at h
          exact .value h .slnil (fun w' _ => this w')
        | sl0 a0 cap =>
          have := zc a0 cap l.toNat 0 hep hl (by simp [hin]) (by simp at h1; omega) (Nat.le_refl _)
          have hd : ([] : List AV).drop l.toNat = [] := by simp
          rw [hd] at h
          exact .value h (.sl0 a0 cap) (fun w' _ => this w')
        | sl b o' n cap s' _ cv hF hb hlen hn hs hcc hoo hrr =>
          obtain ⟨o'', ho1, ho2⟩ := main b o' n cap l.toNat n hep hl (by simp [hin]) (by omega) hn
          have := sl_take (F := Fo X.fr own) (.sl b o' n cap s' _ cv hF hb hlen hn hs hcc hoo hrr) l.toNat n (by omega) (by omega) (cap - l.toNat) (by omega) o'' (fun hh => ho1.1 (by omega)) hz
          rw [List.take_of_length_le (by omega)] at this
          exact .value h this (fun w' _ => ho2 w')
      | some hx =>
        cases hx with
        | int k2 m =>
          rw [hv] at hp
          simp only [hv, hlo, hhi] at h
          obtain ⟨hz, h0, h1, h2, h⟩ := h
          have hl := od_lo R lo k1 l hlo l.toNat (by omega)
          generalize hep : a.eval p = v at hp
          cases hp with
          | slnil =>
            have := nilc l.toNat m.toNat hep hl (od_hi R hi k2 m hhi m.toNat (by omega) 0) (by omega) (by simp at h2; omega)
            have hd : (([] : List AV).take m.toNat).drop l.toNat = [] := by simp
            rw [hd] at h
            exact .value h .slnil (fun w' _ => this w')
          | sl0 a0 cap =>
            have := zc a0 cap l.toNat m.toNat hep hl (od_hi R hi k2 m hhi m.toNat (by omega) 0) (by omega) (by simp at h2; omega)
            have hd : (([] : List AV).take m.toNat).drop l.toNat = [] := by simp
            rw [hd] at h
            exact .value h (.sl0 a0 cap) (fun w' _ => this w')
          | sl b o' n cap s' _ cv hF hb hlen hn hs hcc hoo hrr =>
            obtain ⟨o'', ho1, ho2⟩ := main b o' n cap l.toNat m.toNat hep hl (od_hi R hi k2 m hhi m.toNat (by omega) n) (by omega) (by omega)
            exact .value h (sl_take (F := Fo X.fr own) (.sl b o' n cap s' _ cv hF hb hlen hn hs hcc hoo hrr) l.toNat m.toNat (by omega) (by omega) (cap - l.toNat) (by omega) o'' (fun hh => ho1.1 (by omega)) hz) (fun w' _ => ho2 w')
        | _ => exact (by rw [hv, hlo, hhi] at h; simp at h)
    | _ => exact (by rw [hv, hlo] at h; simp at h)
  | row k b o' n z =>
    cases hlo : ((lo.map od).map (·.ev s)).getD (.int .i64 0) with
    | int k1 l =>
      cases hhi : (hi.map od).map (·.ev s) with
      | none => exact (by rw [hv, hlo, hhi] at h; simp at h)
      | some hx =>
        cases hx with
        | int k2 m =>
          rw [hv] at hp
          simp only [hv, hlo, hhi] at h
          obtain ⟨rfl, rfl, h0, h1, h⟩ := h
          have hl := od_lo R lo k1 0 hlo 0 rfl
          generalize hep : a.eval p = v at hp
          cases hp with
          | row _ _ _ _ _ cap csz T hn hs hc =>
            obtain ⟨o'', ho1, ho2⟩ := main b o' n cap 0 m.toNat hep hl (od_hi R hi k2 m hhi m.toNat (by omega) n) (by omega) (by omega)
            have := ho1.2 rfl
            subst this
            exact .value h (.row _ _ _ _ _ cap csz T (by omega) hs hc) (fun w' _ => by simpa using ho2 w')
        | _ => exact (by rw [hv, hlo, hhi] at h; simp at h)
    | _ => exact (by rw [hv, hlo] at h; simp at h)
  | _ => exact (by rw [hv] at h; simp at h)

theorem s_slcS (R : Rep X s own a w) (o : Oper) (t : TypeId) (p : Operand) (lo hi : Option Operand) (ho : o.op = .slice t p lo hi none) (hu : X.P.underlying t = some .string)
    (h : (AOp.slcS (od p) (lo.map od) (hi.map od)).step s own K) : Out X own w (execOp a.eval o) K := by
  have hp := R.od p
  simp only [AOp.step] at h
  have main : ∀ (xs : List UInt8) (l h : Nat), a.eval p = .string ⟨xs.toArray⟩ → (match lo.map a.eval with | none => l = 0 | some v => ∃ k, v = .int k l) → (match hi.map a.eval with | none => h = xs.length | some v => ∃ k, v = .int k h) → l ≤ h → h ≤ xs.length →
      ∀ w', (execOp a.eval o).run X.P w' = .ok (.value (.string ⟨((xs.take h).drop l).toArray⟩)) w' := by
    intro xs l h hep hl hh h1 h2 w'
    have hsz : (ByteArray.mk xs.toArray).size = xs.length := rfl
    have hex : (ByteArray.mk xs.toArray).extract l h = ⟨((xs.take h).drop l).toArray⟩ := by
      apply ByteArray.ext
      simp [List.drop_take]
    have hb := run_bounds (P := X.P) false xs.length xs.length _ _ l h hl hh h1 h2 w'
    simp [execOp, ho, Instr.sliceAt, run_underlying hu, hep, Instr.slice, hsz, hb, hex]
  cases hv : (od p).ev s with
  | str xs =>
    cases hlo : ((lo.map od).map (·.ev s)).getD (.int .i64 0) with
    | int k1 l =>
      cases hhi : (hi.map od).map (·.ev s) with
      | none =>
        rw [hv] at hp
        simp only [hv, hlo, hhi] at h
        obtain ⟨h0, h1, h⟩ := h
        have hin : hi.map a.eval = none := by cases hi <;> simp_all
        have hl := od_lo R lo k1 l hlo l.toNat (by omega)
        generalize hep : a.eval p = v at hp
        cases hp
        have := main xs l.toNat xs.length hep hl (by simp [hin]) (by omega) (Nat.le_refl _)
        rw [List.take_length] at this
        exact .value h (.str _) (fun w' _ => this w')
      | some hx =>
        cases hx with
        | int k2 m =>
          rw [hv] at hp
          simp only [hv, hlo, hhi] at h
          obtain ⟨h0, h1, h2, h⟩ := h
          have hl := od_lo R lo k1 l hlo l.toNat (by omega)
          generalize hep : a.eval p = v at hp
          cases hp
          exact .value h (.str _) (fun w' _ => main xs l.toNat m.toNat hep hl (od_hi R hi k2 m hhi m.toNat (by omega) _) (by omega) (by omega) w')
        | _ => exact (by rw [hv, hlo, hhi] at h; simp at h)
    | _ => exact (by rw [hv, hlo] at h; simp at h)
  | _ => exact (by rw [hv] at h; simp at h)

/-- All operations that only read. -/
theorem step_sound (R : Rep X s own a w) (o : Oper) (op : AOp) (hc : comp X.P o = some op) (h : op.step s own K) : Out X own w (execOp a.eval o) K := by
  cases ho : o.op with
  | move x => simp only [comp, ho, Option.some.injEq] at hc; subst hc; exact s_mov R o x (by simp [execOp, ho]) h
  | assign x => simp only [comp, ho, Option.some.injEq] at hc; subst hc; exact s_mov R o x (by simp [execOp, ho]) h
  | pick c x y => simp only [comp, ho, Option.some.injEq] at hc; subst hc; exact s_pick R o c x y ho h
  | load t p => exact s_load R o t p ho op hc h
  | fieldAddr t x f => exact s_fadr R o t x f ho op hc h
  | indexAddr t x i => exact s_iadr R o t x i ho op hc h
  | field t x f => exact s_fld R o t x f ho op hc h
  | build t ps => exact s_bld R o t ps ho op hc h
  | binOp bo t x y t' =>
    simp only [comp, ho] at hc
    cases hu : X.P.underlying t with
    | none => simp [hu] at hc
    | some d =>
      cases d <;> simp only [hu, Option.some.injEq, reduceCtorEq] at hc
      · subst hc; exact s_binB R o bo t t' x y ho hu h
      · subst hc; exact s_bin R o bo t t' x y ho h
      · subst hc; exact s_bin R o bo t t' x y ho h
  | unOp uo t x => simp only [comp, ho, Option.some.injEq] at hc; subst hc; exact s_un R o uo t x ho h
  | convert t t' x =>
    simp only [comp, ho] at hc
    cases hu : X.P.underlying t with
    | none => simp [hu] at hc
    | some d =>
      cases d <;> try (simp [hu] at hc; done)
      cases hu' : X.P.underlying t' with
      | none => simp [hu, hu'] at hc
      | some d' =>
        cases d' <;> simp only [hu, hu', Option.some.injEq, reduceCtorEq] at hc
        subst hc
        exact s_conv R o t t' x ho _ _ hu hu' h
  | extract x i => simp only [comp, ho, Option.some.injEq] at hc; subst hc; exact s_ext R o x i ho h
  | index t x i =>
    simp only [comp, ho] at hc
    cases hu : X.P.underlying t with
    | none => simp [hu] at hc
    | some d =>
      cases d <;> simp only [hu, Option.some.injEq, reduceCtorEq] at hc
      subst hc
      exact s_idxS R o t x i ho hu h
  | makeFunc f p q => simp only [comp, ho, Option.some.injEq] at hc; subst hc; exact s_mkfn R o f p q ho h
  | slice t x lo hi mx =>
    cases mx with
    | some _ => simp [comp, ho] at hc
    | none =>
      simp only [comp, ho] at hc
      cases hu : X.P.underlying t with
      | none => simp [hu] at hc
      | some d =>
        cases d <;> try (simp [hu] at hc; done)
        · simp only [hu, Option.some.injEq] at hc
          subst hc
          exact s_slcS R o t x lo hi ho hu h
        · rename_i e
          cases hj : X.P.info? e with
          | none => simp [hu, hj] at hc
          | some j =>
            simp only [hu, hj, Option.map_some, Option.some.injEq] at hc
            subst hc
            exact s_slc R o t e x lo hi j ho hu hj h
  | alloc t =>
    simp only [comp, ho] at hc
    obtain ⟨j, z, _, _, _, hf⟩ := zeros_some hc
    simp only [Option.some.injEq] at hf
    subst hf
    exact h.elim
  | box t x => simp only [comp, ho, Option.some.injEq] at hc; subst hc; exact h.elim
  | buildSlice t n ps =>
    simp only [comp, ho] at hc
    cases hu : X.P.underlying t with
    | none => simp [hu] at hc
    | some d =>
      cases d <;> try (simp [hu] at hc; done)
      rename_i e
      cases hj : X.P.info? e with
      | none => simp [hu, hj] at hc
      | some j =>
        simp only [hu, hj, Option.bind_some] at hc
        obtain ⟨j, z, _, _, _, hf⟩ := zeros_some hc
        split at hf
        · simp only [Option.some.injEq] at hf
          subst hf
          exact h.elim
        · cases hf
  | store t x y =>
    simp only [comp, ho] at hc
    cases hj : X.P.info? t with
    | none => simp [hj] at hc
    | some j =>
      simp only [hj, Option.map_some, Option.some.injEq] at hc
      subst hc
      exact h.elim
  | call c =>
    simp only [comp, ho, compC] at hc
    cases hcc : c.callee with
    | builtin b =>
      simp only [hcc] at hc
      unfold compB at hc
      split at hc
      · rename_i x t hargs hts
        refine s_len R o x t c ho hcc ?_ ?_ op (by simp only [compB]; exact hc) h
        · exact Array.toList_inj.1 hargs
        · exact Array.toList_inj.1 hts
      · split at hc
        · rename_i e _
          split at hc
          · cases hj : X.P.info? e with
            | none => simp [hj] at hc
            | some j =>
              simp only [hj, Option.bind_some] at hc
              split at hc
              · simp only [Option.some.injEq] at hc
                subst hc
                exact h.elim
              · cases hc
          · cases hc
        · cases hc
      · cases hc
    | value f =>
      simp only [hcc] at hc
      split at hc
      · split at hc
        · simp only [Option.some.injEq] at hc; subst hc; exact h.elim
        · cases hc
      · simp only [Option.some.injEq] at hc; subst hc; exact h.elim
    | invoke _ _ => simp [hcc] at hc
  | _ => simp [comp, ho] at hc
end
end Go.Aw
