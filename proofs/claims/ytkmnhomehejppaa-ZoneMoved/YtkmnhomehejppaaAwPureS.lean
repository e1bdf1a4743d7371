/- Operations that only read: the model's run gives what 'AOp.step' says. -/
import Derived.Test.YtkmnhomehejppaaAwPure
set_option linter.unusedSimpArgs false
set_option linter.unusedVariables false
set_option linter.deprecated false
namespace Go.Aw

/-- the blocks of 'w' that are not of 'D' stand in 'w'' as they were -/
def Same (D : Nat → Prop) (w w' : World) : Prop := ∀ b, b < w.heap.size → ¬ D b → w'.heap[b]? = w.heap[b]?
theorem Same.cell {D : Nat → Prop} {w w' : World} (h : Same D w w') {b o : Nat} (hb : b < w.heap.size ∧ ¬ D b) : w'.cell? ⟨b, o, none⟩ = w.cell? ⟨b, o, none⟩ := by
  unfold World.cell?
  simp only [h b hb.1 hb.2]
theorem Same.refl (D : Nat → Prop) (w : World) : Same D w w := fun _ _ _ => rfl

def Gives (P : Program) (D : Nat → Prop) (w : World) (m : Sem Next) (v : Value) : Prop := ∀ w', Same D w w' → m.run P w' = .ok (.value v) w'

theorem rel_avOf (F : Nat → Prop) (w : World) (v : Value) : Rel F w v (avOf v) := by
  cases v with
  | int k n => exact .int _ _
  | bool b => exact .bool _
  | string s => exact .str s.data.toList
  | slice a n c =>
    simp only [avOf]
    split
    · rename_i h; obtain ⟨rfl, rfl, rfl⟩ := h; exact .nil
    · exact .lit _
  | func f a b =>
    simp only [avOf]
    split
    · rename_i h; exact .fn _ _ _ _ _ (by simpa using h.1) (by simpa using h.2) (by simp) (by simp)
    · exact .lit _
  | _ => exact .lit _

theorem Rep.od {X : Cx} {s : Slots} {own : Own} {a : Act} {w : World} (R : Rep X s own a w) (x : Operand) : Rel (Fo X.fr own) w (a.eval x) ((od x).ev s) := by
  cases x with
  | tmp t => exact R.tm t
  | const v => exact rel_avOf _ _ v
  | global g => exact .lit _
  | func f => exact .fn _ _ _ _ _ rfl rfl (by simp) (by simp)

theorem Own.find_mem {own : Own} {k b : Nat} {ob : Ob} (h : own.find k b = some ob) : (k, b, ob) ∈ own := by
  induction own with
  | nil => cases h
  | cons e r ih =>
    obtain ⟨k', b', ob'⟩ := e
    simp only [Own.find] at h
    split at h
    · rename_i hk
      split at h
      · rename_i hb; cases h; subst hk hb; exact List.mem_cons_self ..
      · cases h
    · exact List.mem_cons_of_mem _ (ih h)

theorem add_at (b o n : Nat) : (⟨b, o, none⟩ : Addr).add n = ⟨b, o + n, none⟩ := by
  unfold Addr.add
  split <;> simp_all

variable {P : Program}

theorem run_tinfo {t : TypeId} {i : TypeInfo} (h : P.info? t = some i) (w : World) : (typeInfo t).run P w = .ok i w := by simp [typeInfo, h]
theorem run_size {t : TypeId} {i : TypeInfo} (h : P.info? t = some i) (w : World) : (sizeOf t).run P w = .ok i.size w := by simp [sizeOf, run_tinfo h]
theorem run_isAgg {t : TypeId} {d : TypeDesc} (h : P.underlying t = some d) (w : World) : (isAgg t).run P w = .ok (aggB P t) w := by
  unfold isAgg aggB
  simp only [Sem.run_bind, run_underlying h, Result.andThen_ok, h]
  cases d <;> rfl

theorem aggB_some {t : TypeId} (h : aggB P t = true) : ∃ d, P.underlying t = some d := by
  unfold aggB at h
  cases hd : P.underlying t with
  | none => simp [hd] at h
  | some d => exact ⟨d, rfl⟩

theorem loadVar_agg {t : TypeId} {i : TypeInfo} (ha : aggB P t = true) (hi : P.info? t = some i) (w : World) (b o : Nat) (vs : List Value) (hl : vs.length = i.size)
    (hc : ∀ (j : Nat) (v : Value), vs[j]? = some v → w.cell? ⟨b, o + j, none⟩ = some v) : (loadVar t ⟨b, o, none⟩).run P w = .ok (.agg vs.toArray) w := by
  obtain ⟨d, hd⟩ := aggB_some ha
  have h := run_loadCells_list (P := P) w ⟨b, o, none⟩ vs (fun j v hj => by rw [add_at]; exact hc j v hj)
  rw [hl] at h
  simp [loadVar, run_isAgg hd, ha, run_size hi, h]

theorem loadVar_one {t : TypeId} (ha : aggB P t = false) {d : TypeDesc} (hd : P.underlying t = some d) (w : World) (b o : Nat) (v : Value)
    (hc : w.cell? ⟨b, o, none⟩ = some v) : (loadVar t ⟨b, o, none⟩).run P w = .ok v w := by
  simp [loadVar, run_isAgg hd, ha, hc]

/-- the cells of a list of abstract values, out of a block -/
theorem vals_of {F : Nat → Prop} {w : World} {cs : List AV} {c : Nat → Option Value} (h : ∀ (i : Nat) x, cs[i]? = some x → ∃ v, c i = some v ∧ v.oneCell' = true ∧ Rel F w v x) (o sz : Nat) (hsz : o + sz ≤ cs.length) :
    ∃ vs : List Value, vs.length = sz ∧ (∀ (j : Nat) (v : Value), vs[j]? = some v → c (o + j) = some v ∧ v.oneCell' = true) ∧ ∀ (j : Nat) (v : Value) (y : AV), vs[j]? = some v → ((cs.drop o).take sz)[j]? = some y → Rel F w v y := by
  refine ⟨(List.range sz).map fun j => (c (o + j)).getD undef, by simp, ?_, ?_⟩
  · intro j v hj
    have hlt : j < sz := by
      have := (List.getElem?_eq_some_iff.1 hj).1
      simpa using this
    have hx : cs[o + j]? = some cs[o + j] := List.getElem?_eq_getElem (by omega)
    obtain ⟨u, hu, ho, _⟩ := h _ _ hx
    simp [hlt, hu] at hj
    subst hj
    exact ⟨hu, ho⟩
  · intro j v y hj hy
    have hlt : j < sz := by
      have := (List.getElem?_eq_some_iff.1 hj).1
      simpa using this
    have hx : cs[o + j]? = some cs[o + j] := List.getElem?_eq_getElem (by omega)
    obtain ⟨u, hu, _, hr⟩ := h _ _ hx
    simp [hlt, hu] at hj
    subst hj
    rw [List.getElem?_take_of_lt hlt, List.getElem?_drop, hx] at hy
    cases hy
    exact hr

theorem rel_mk {F : Nat → Prop} {w : World} {vs : List Value} {cs : List AV} (hl : vs.length = cs.length) (ho : ∀ (j : Nat) (v : Value), vs[j]? = some v → v.oneCell' = true)
    (hr : ∀ (j : Nat) (v : Value) (y : AV), vs[j]? = some v → cs[j]? = some y → Rel F w v y) : Rel F w (.agg vs.toArray) (.agg cs) :=
  .agg _ _ (by simpa using hl) (by simpa using ho) (by simpa using hr)

section
variable {X : Cx} {s : Slots} {own : Own} {a : Act} {w : World}

/-- what a 'load' asks of the abstract address, in one word: the cells at an address -/
theorem addr_cells {v : Value} {x : AV} (R : Rep X s own a w) (hv : Rel (Fo X.fr own) w v x) {sz : Nat} {K : List AV → Prop}
    (h : cellsAt own x sz K) :
    ∃ (b o : Nat) (cs : List AV) (vs : List Value), v = .pointer (some ⟨b, o, none⟩) ∧ K cs ∧ vs.length = sz ∧ cs.length = sz ∧ (b < w.heap.size ∧ ¬ X.fr b) ∧ (∀ (j : Nat) (u : Value), vs[j]? = some u → w.cell? ⟨b, o + j, none⟩ = some u ∧ u.oneCell' = true) ∧
      ∀ (j : Nat) (u : Value) (y : AV), vs[j]? = some u → cs[j]? = some y → Rel (Fo X.fr own) w u y := by
  unfold cellsAt at h
  cases hv with
  | ptr k b o =>
    simp only at h
    cases hf : own.find k b with
    | none => simp [hf] at h
    | some ob =>
      obtain ⟨cs⟩ | ⟨_, _⟩ := ob
      rotate_left
      · simp [hf] at h
      simp only [hf] at h
      obtain ⟨hle, hK⟩ := h
      have hh := R.ok.holds _ (Own.find_mem hf)
      have hlt := hh.lt
      obtain ⟨⟨T, csz, h1, h3⟩, h2, h4⟩ := hh
      obtain ⟨vs, hvl, hvc, hvr⟩ := vals_of (c := fun i => w.cell? ⟨b, i, none⟩) h4 o sz hle
      exact ⟨b, o, _, vs, rfl, hK, hvl, by simp; omega, ⟨hlt, R.ok.apart _ (List.mem_map.2 ⟨_, Own.find_mem hf, rfl⟩)⟩, fun j u hj => hvc j u hj, hvr⟩
  | ref b o cs cv hF hb hc ho hr =>
    obtain ⟨hle, hK⟩ := h
    obtain ⟨vs, hvl, hvc, hvr⟩ := vals_of (F := Fo X.fr own) (w := w) (cs := cs) (c := fun i => w.cell? ⟨b, o + i, none⟩) (fun i x hx => ⟨_, hc i x hx, ho i x hx, hr i x hx⟩) 0 sz (by omega)
    refine ⟨b, o, _, vs, rfl, hK, hvl, by simp; omega, ⟨hb, fun h => hF (.inl h)⟩, fun j u hj => ?_, by simpa using hvr⟩
    simpa using hvc j u hj
  | _ => simp at h

end
end Go.Aw
