/- Cells laid into cells: structs, arrays and new slices. -/
import Derived.Test.YtkmnhomehejppaaAwPureS
import Derived.Laws.Tables
set_option linter.unusedSimpArgs false
set_option linter.unusedVariables false
set_option linter.deprecated false
namespace Go.Aw

/-- cells read as abstract cells -/
structure RelC (F : Nat → Prop) (w : World) (vs : Array Value) (xs : List AV) : Prop where
  len : vs.size = xs.length
  one : ∀ (j : Nat) (v : Value), vs[j]? = some v → v.oneCell' = true
  rel : ∀ (j : Nat) (v : Value) (y : AV), vs[j]? = some v → xs[j]? = some y → Rel F w v y

theorem Rel.storOne {F : Nat → Prop} {w : World} {v : Value} {x : AV} (h : Rel F w v x) (hs : x.stor = true) : (∃ vs cs, v = .agg vs ∧ x = .agg cs) ∨ (v.oneCell' = true ∧ v.cells = #[v] ∧ x.cells = [x]) := by
  cases h with
  | agg vs cs => exact .inl ⟨_, _, rfl, rfl⟩
  | any v => cases hs
  | tup => cases hs
  | lit v =>
    refine .inr ⟨hs, ?_, rfl⟩
    cases v <;> first | rfl | cases hs
  | _ => exact .inr ⟨rfl, rfl, rfl⟩

theorem relC_one {F : Nat → Prop} {w : World} {v : Value} {x : AV} (h : Rel F w v x) (ho : v.oneCell' = true) : RelC F w #[v] [x] := by
  refine ⟨rfl, fun j u hj => ?_, fun j u y hj hy => ?_⟩
  · cases j with
    | zero => simp at hj; subst hj; exact ho
    | succ j => simp at hj
  · cases j with
    | zero => simp at hj hy; subst hj hy; exact h
    | succ j => simp at hj

theorem Rel.relC {F : Nat → Prop} {w : World} {v : Value} {x : AV} (h : Rel F w v x) (hs : x.stor = true) : RelC F w v.cells x.cells := by
  rcases h.storOne hs with ⟨vs, cs, rfl, rfl⟩ | ⟨h1, h2, h3⟩
  · cases h with
    | agg _ _ hl ho hr => exact ⟨hl, ho, hr⟩
  · rw [h2, h3]
    exact relC_one h h1

theorem RelC.relAgg {F : Nat → Prop} {w : World} {vs : Array Value} {xs : List AV} (h : RelC F w vs xs) : Rel F w (.agg vs) (.agg xs) := .agg _ _ h.len h.one h.rel

theorem relC_zeros (F : Nat → Prop) (w : World) (z : Value) (h : z.cells.toList.all (·.oneCell') = true) : RelC F w z.cells (z.cells.toList.map avOf) := by
  refine ⟨by simp, fun j v hj => ?_, fun j v y hj hy => ?_⟩
  · simp only [List.all_eq_true] at h
    exact h v (by simpa using Array.mem_of_getElem? hj)
  · simp only [List.getElem?_map, Array.getElem?_toList, hj, Option.map_some, Option.some.injEq] at hy
    subst hy
    exact rel_avOf F w v

theorem foldl_set (off : Nat) : ∀ (vs : List Value) (k : Nat) (cells : Array Value),
    ((vs.zipIdx k).foldl (fun cs p => cs.setIfInBounds (off + p.2) p.1) cells).size = cells.size ∧
    ∀ i, ((vs.zipIdx k).foldl (fun cs p => cs.setIfInBounds (off + p.2) p.1) cells)[i]? = if off + k ≤ i ∧ i < off + k + vs.length ∧ i < cells.size then vs[i - (off + k)]? else cells[i]?
  | [], k, cells => by
    refine ⟨rfl, fun i => ?_⟩
    rw [if_neg (by simp; omega)]
    rfl
  | v :: r, k, cells => by
    obtain ⟨h1, h2⟩ := foldl_set off r (k + 1) (cells.setIfInBounds (off + k) v)
    refine ⟨by simpa [List.zipIdx_cons] using h1, fun i => ?_⟩
    simp only [List.zipIdx_cons, List.foldl_cons]
    rw [h2 i]
    simp only [Array.size_setIfInBounds, List.length_cons]
    by_cases hi : i = off + k
    · subst hi
      rw [if_neg (by omega)]
      by_cases hlt : off + k < cells.size
      · rw [if_pos (by omega)]
        simp [hlt]
      · rw [if_neg (by omega)]
        simp [Array.getElem?_setIfInBounds, hlt]
    · by_cases hc : off + k ≤ i ∧ i < off + k + (r.length + 1) ∧ i < cells.size
      · rw [if_pos (by omega), if_pos hc]
        rw [show i - (off + k) = (i - (off + (k + 1))) + 1 by omega]
        rfl
      · rw [if_neg (by omega), if_neg hc]
        simp [Array.getElem?_setIfInBounds, Ne.symm hi]

theorem RelC.fill {F : Nat → Prop} {w : World} (pl : Nat → Option (Nat × Nat)) : ∀ (ps : List (Nat × Value)) (qs : List (Nat × Nat × AV)) (cells : Array Value) (zs cs : List AV), RelC F w cells zs →
    ps.length = qs.length → (∀ (j : Nat) p q, ps[j]? = some p → qs[j]? = some q → pl p.1 = some (q.1, q.2.1) ∧ Rel F w p.2 q.2.2) → fillA zs qs = some cs →
    ∃ cv, Instr.fill pl cells ps = some cv ∧ RelC F w cv cs
  | [], [], cells, zs, cs, hz, _, _, h => by
    simp only [fillA, Option.some.injEq] at h
    subst h
    exact ⟨cells, rfl, hz⟩
  | [], _ :: _, _, _, _, _, hl, _, _ => by simp at hl
  | _ :: _, [], _, _, _, _, hl, _, _ => by simp at hl
  | (i, v) :: ps, (off, sz, x) :: qs, cells, zs, cs, hz, hl, hp, h => by
    obtain ⟨hpl, hrel⟩ := hp 0 _ _ rfl rfl
    simp only [fillA] at h
    split at h
    · rename_i hc
      obtain ⟨h1, h2, h3⟩ := hc
      have hv := hrel.relC h3
      simp only at hv
      have hvl : v.cells.size = sz := by rw [hv.len, h1]
      simp only at hpl
      unfold Instr.fill
      simp only [hpl]
      rw [if_neg (by have := hz.len; simp [hvl]; omega)]
      have hf := foldl_set off v.cells.toList 0 cells
      have hfe : v.cells.zipIdx.foldl (fun cs x => cs.setIfInBounds (off + x.2) x.1) cells = (v.cells.toList.zipIdx 0).foldl (fun cs p => cs.setIfInBounds (off + p.2) p.1) cells := by
        rw [← Array.foldl_toList]
        simp
      obtain ⟨hf1, hf2⟩ := hf
      rw [← hfe] at hf1 hf2
      refine RelC.fill pl ps qs _ _ cs ?_ (by simpa using hl) (fun j p q hj hq => hp (j + 1) p q (by simpa using hj) (by simpa using hq)) h
      have hzl := hz.len
      refine ⟨?_, fun j u hj => ?_, fun j u y hj hy => ?_⟩
      · rw [hf1, hz.len]
        simp [h1]
        omega
      · rw [hf2 j] at hj
        split at hj
        · exact hv.one _ _ (by simpa using hj)
        · exact hz.one _ _ hj
      · rw [hf2 j] at hj
        simp only [Nat.add_zero, Array.length_toList, hvl] at hj
        rw [List.append_assoc] at hy
        by_cases hj1 : j < off
        · rw [if_neg (by omega)] at hj
          rw [List.getElem?_append_left (by simp; omega), List.getElem?_take_of_lt hj1] at hy
          exact hz.rel _ _ _ hj hy
        · rw [List.getElem?_append_right (by simp; omega)] at hy
          simp only [List.length_take, Nat.min_eq_left (show off ≤ zs.length by omega)] at hy
          by_cases hj2 : j < off + sz
          · rw [List.getElem?_append_left (by omega)] at hy
            by_cases hj3 : j < cells.size
            · rw [if_pos (by omega)] at hj
              exact hv.rel _ _ _ (by simpa using hj) hy
            · omega
          · rw [if_neg (by omega)] at hj
            rw [List.getElem?_append_right (by omega), List.getElem?_drop, h1] at hy
            rw [show off + sz + (j - off - sz) = j by omega] at hy
            exact hz.rel _ _ _ hj hy
    · cases h
end Go.Aw
