/- What is owned may be given up: what leads there is memory that does not change from now on. -/
import Derived.Test.YtkmnhomehejppaaAwCode
set_option linter.unusedSimpArgs false
set_option linter.unusedVariables false
set_option linter.deprecated false
namespace Go.Aw

/-- 'x' may be read as 'y', once the blocks of 'fz' are written no more -/
inductive Frz (fz : Own) : AV → AV → Prop where
  | keep (x : AV) : Frz fz x x
  | any (x : AV) : Frz fz x .any
  | ptr (k b o : Nat) (cs ys : List AV) (c : Nat → AV) (hf : fz.find k b = some (.cells cs)) (hc : ∀ (j : Nat) (y : AV), ys[j]? = some y → cs[o + j]? = some (c j)) (h : ∀ (j : Nat) (y : AV), ys[j]? = some y → Frz fz (c j) y) : Frz fz (.ptr k b o) (.ref ys)
  | row (k b o n s : Nat) (cs xs : List AV) (c : Nat → AV) (hf : fz.find k b = some (.cells cs)) (hn : n = xs.length) (hs : ∀ (i : Nat) (x : AV), xs[i]? = some x → x.cells.length = s)
      (hc : ∀ (i : Nat) (x : AV) (j : Nat) (y : AV), xs[i]? = some x → x.cells[j]? = some y → cs[o + i * s + j]? = some (c (i * s + j)))
      (h : ∀ (i : Nat) (x : AV) (j : Nat) (y : AV), xs[i]? = some x → x.cells[j]? = some y → Frz fz (c (i * s + j)) y) : Frz fz (.row k b o n s) (.sl xs)
  | nil : Frz fz .nil (.sl [])
  | agg (cs ys : List AV) (hl : cs.length = ys.length) (h : ∀ (j : Nat) (c y : AV), cs[j]? = some c → ys[j]? = some y → Frz fz c y) : Frz fz (.agg cs) (.agg ys)
  | tup (cs ys : List AV) (hl : cs.length = ys.length) (h : ∀ (j : Nat) (c y : AV), cs[j]? = some c → ys[j]? = some y → Frz fz c y) : Frz fz (.tup cs) (.tup ys)
  | fn (f : Fn) (as bs cs ds : List AV) (hl : as.length = cs.length) (hl' : bs.length = ds.length) (h : ∀ (j : Nat) (c y : AV), as[j]? = some c → cs[j]? = some y → Frz fz c y) (h' : ∀ (j : Nat) (c y : AV), bs[j]? = some c → ds[j]? = some y → Frz fz c y) : Frz fz (.fn f as bs) (.fn f cs ds)
  | ifc (t : TypeId) (x y : AV) (h : Frz fz x y) : Frz fz (.ifc t x) (.ifc t y)

theorem frz_rel {fr : Nat → Prop} {w : World} {fz rest : Own} (hok : OwnOk fr w (fz ++ rest)) {x y : AV} (h : Frz fz x y) : ∀ {v : Value}, Rel (Fo fr (fz ++ rest)) w v x → Rel (Fo fr rest) w v y := by
  have hnd := hok.nodup
  rw [List.map_append] at hnd
  obtain ⟨_, _, hap⟩ := List.nodup_append.1 hnd
  have hF : ∀ b, Fo fr rest b → Fo fr (fz ++ rest) b := fun b h => h.imp id (fun h => by
    unfold Own.has at h ⊢
    rw [List.map_append, List.mem_append]
    exact .inr h)
  have free : ∀ {k b : Nat} {cs : List AV}, fz.find k b = some (.cells cs) → ¬ Fo fr rest b := fun {k b cs} hf h => by
    have hm := Own.find_mem hf
    have hb : b ∈ fz.map (fun e => e.2.1) := List.mem_map.2 ⟨_, hm, rfl⟩
    rcases h with h | h
    · exact hok.apart b (by unfold Own.has; rw [List.map_append, List.mem_append]; exact .inl hb) h
    · exact hap b hb b h rfl
  have cells : ∀ {k b : Nat} {cs : List AV}, fz.find k b = some (.cells cs) → b < w.heap.size ∧ ∀ (i : Nat) (c : AV), cs[i]? = some c → ∃ v, w.cell? ⟨b, i, none⟩ = some v ∧ v.oneCell' = true ∧ Rel (Fo fr (fz ++ rest)) w v c := fun {k b cs} hf => by
    have hh := hok.holds _ (List.mem_append_left rest (Own.find_mem hf))
    exact ⟨hh.lt, hh.2.2⟩
  induction h with
  | keep x => exact fun h => h.mono (Grow.refl _ _) (fun b _ h => hF b h)
  | any x => exact fun _ => .any _
  | nil =>
    intro v h
    cases h
    exact .slnil
  | ptr k b o cs ys c hf hc h ih =>
    intro v hv
    cases hv
    obtain ⟨hlt, hcell⟩ := cells hf
    have hcv : ∀ (j : Nat) (y : AV), ys[j]? = some y → ∃ u, w.cell? ⟨b, o + j, none⟩ = some u ∧ u.oneCell' = true ∧ Rel (Fo fr rest) w u y := fun j y hy => by
      obtain ⟨u, h3, h4, h5⟩ := hcell _ _ (hc j y hy)
      exact ⟨u, h3, h4, ih j y hy h5⟩
    refine .ref b o ys (fun j => (w.cell? ⟨b, o + j, none⟩).getD undef) (free hf) hlt (fun j y hy => ?_) (fun j y hy => ?_) (fun j y hy => ?_)
    · obtain ⟨u, h3, _, _⟩ := hcv j y hy
      simp [h3]
    · obtain ⟨u, h3, h4, _⟩ := hcv j y hy
      simpa [h3] using h4
    · obtain ⟨u, h3, _, h5⟩ := hcv j y hy
      simpa [h3] using h5
  | row k b o n s cs xs c hf hn hs hc h ih =>
    intro v hv
    cases hv with
    | row _ _ _ _ _ cap csz T hn' hsh hcap =>
    obtain ⟨hlt, hcell⟩ := cells hf
    have hcv : ∀ (i : Nat) (x : AV) (j : Nat) (y : AV), xs[i]? = some x → x.cells[j]? = some y → ∃ u, w.cell? ⟨b, o + i * s + j, none⟩ = some u ∧ u.oneCell' = true ∧ Rel (Fo fr rest) w u y := fun i x j y hx hy => by
      obtain ⟨u, h3, h4, h5⟩ := hcell _ _ (hc i x j y hx hy)
      exact ⟨u, h3, h4, ih i x j y hx hy h5⟩
    have hcv' : ∀ (i : Nat) (x : AV) (j : Nat) (y : AV), xs[i]? = some x → x.cells[j]? = some y → ∃ u, w.cell? ⟨b, o + (i * s + j), none⟩ = some u ∧ u.oneCell' = true ∧ Rel (Fo fr rest) w u y := fun i x j y hx hy => by
      have := hcv i x j y hx hy
      rwa [Nat.add_assoc] at this
    refine .sl b o n cap s xs (fun j => (w.cell? ⟨b, o + j, none⟩).getD undef) (free hf) hlt hn hn' hs (fun i x j y hx hy => ?_) (fun i x j y hx hy => ?_) (fun i x j y hx hy => ?_)
    · obtain ⟨u, h3, _, _⟩ := hcv' i x j y hx hy
      rw [Nat.add_assoc]
      simp [h3]
    · obtain ⟨u, h3, h4, _⟩ := hcv' i x j y hx hy
      simpa [h3] using h4
    · obtain ⟨u, h3, _, h5⟩ := hcv' i x j y hx hy
      simpa [h3] using h5
  | agg cs ys hl h ih =>
    intro v hv
    cases hv with
    | agg vs _ hlen ho hr => exact .agg _ _ (by omega) ho (fun j u y hu hy => by
        have hlt : j < cs.length := by have := (List.getElem?_eq_some_iff.1 hy).1; omega
        exact ih j _ y (List.getElem?_eq_getElem hlt) hy (hr j u _ hu (List.getElem?_eq_getElem hlt)))
  | tup cs ys hl h ih =>
    intro v hv
    cases hv with
    | tup vs _ hlen hr => exact .tup _ _ (by omega) (fun j u y hu hy => by
        have hlt : j < cs.length := by have := (List.getElem?_eq_some_iff.1 hy).1; omega
        exact ih j _ y (List.getElem?_eq_getElem hlt) hy (hr j u _ hu (List.getElem?_eq_getElem hlt)))
  | fn f as bs cs ds hl hl' h h' ih ih' =>
    intro v hv
    cases hv with
    | fn _ us vs _ _ h1 h2 hr hr' => exact .fn _ _ _ _ _ (by omega) (by omega) (fun j u y hu hy => by
        have hlt : j < as.length := by have := (List.getElem?_eq_some_iff.1 hy).1; omega
        exact ih j _ y (List.getElem?_eq_getElem hlt) hy (hr j u _ hu (List.getElem?_eq_getElem hlt))) (fun j u y hu hy => by
        have hlt : j < bs.length := by have := (List.getElem?_eq_some_iff.1 hy).1; omega
        exact ih' j _ y (List.getElem?_eq_getElem hlt) hy (hr' j u _ hu (List.getElem?_eq_getElem hlt)))
  | ifc t x y h ih =>
    intro v hv
    cases hv with
    | ifc _ u _ hr => exact .ifc _ _ _ (ih hr)

theorem Rep.frz {X : Cx} {s s' : Slots} {own fz rest : Own} {a : Act} {w : World} (R : Rep X s own a w) (hp : own.Perm (fz ++ rest)) (h : ∀ t, Frz fz (s.get t) (s'.get t)) : Rep X s' rest a w := by
  have R1 : Rep X s (fz ++ rest) a w := R.reown _ (fun e he => ⟨e, hp.mem_iff.2 he, rfl, ObLe.refl _⟩) ((hp.map _).nodup_iff.1 R.ok.nodup)
  have hnd := R1.ok.nodup
  rw [List.map_append] at hnd
  have R2 : Rep X s rest a w := R1.reown rest (fun e he => ⟨e, List.mem_append_right _ he, rfl, ObLe.refl _⟩) (List.nodup_append.1 hnd).2.1
  exact ⟨fun t => frz_rel R1.ok (h t) (R1.tm t), R2.ok, R2.new, R2.size, R2.defs, R2.kept⟩

theorem ent_frz {X : Cx} {s s' : Slots} {own : Own} (fz rest : Own) (hp : own.Perm (fz ++ rest)) (h : ∀ t, Frz fz (s.get t) (s'.get t)) : Ent X s own s' rest := fun _ _ R => R.frz hp h

theorem awp_ent {X : Cx} {s s' : Slots} {own own' : Own} {Q : Post} {x : AC} (h : Ent X s own s' own') (hk : AWP X x s' own' Q) : AWP X x s own Q := fun c hc a w R => hk c hc a w (h a w R)

/-- slot by slot -/
def SubF (fz : Own) (s : Slots) : Slots → Prop
  | [] => True
  | (t, x) :: r => Frz fz (s.get t) x ∧ SubF fz s r

theorem subF_get {fz : Own} {s : Slots} : ∀ (s' : Slots), SubF fz s s' → ∀ t, Frz fz (s.get t) (s'.get t)
  | [], _, _ => .any _
  | (k, x) :: r, h, t => by
    simp only [Slots.get]
    by_cases hk : k = t
    · subst hk
      rw [if_pos rfl]
      exact h.1
    · rw [if_neg hk]
      exact subF_get r h.2 t

/-- 'fz' is given up: the slots 's'' are kept -/
theorem awp_frz {X : Cx} {s : Slots} {own : Own} {Q : Post} {x : AC} (fz rest : Own) (s' : Slots) (hp : own.Perm (fz ++ rest)) (h : SubF fz s s') (hk : AWP X x s' rest Q) : AWP X x s own Q :=
  awp_ent (ent_frz fz rest hp (subF_get s' h)) hk

/-- one cell each, nothing in them to be given up -/
theorem Frz.ptr0 {fz : Own} {k b : Nat} {cs : List AV} (hf : fz.find k b = some (.cells cs)) : Frz fz (.ptr k b 0) (.ref cs) :=
  .ptr k b 0 cs cs (fun j => cs.getD j .any) hf (fun j y hy => by simp [List.getD, hy]) (fun j y hy => by simp [List.getD, hy]; exact .keep _)

theorem Frz.row1 {fz : Own} {k b n : Nat} {xs cs : List AV} (hf : fz.find k b = some (.cells cs)) (hn : n = xs.length) (h1 : ∀ x, x ∈ xs → x.cells = [x]) (hc : ∀ (i : Nat) (x : AV), xs[i]? = some x → cs[i]? = some x) : Frz fz (.row k b 0 n 1) (.sl xs) := by
  have hj : ∀ (i : Nat) (x : AV) (j : Nat) (y : AV), xs[i]? = some x → x.cells[j]? = some y → j = 0 ∧ y = x := fun i x j y hx hy => by
    rw [h1 x (List.mem_of_getElem? hx)] at hy
    cases j with
    | zero => exact ⟨rfl, by simpa using hy.symm⟩
    | succ j => simp at hy
  refine .row k b 0 n 1 cs xs (fun j => cs.getD j .any) hf hn (fun i x hx => by rw [h1 x (List.mem_of_getElem? hx)]; rfl) (fun i x j y hx hy => ?_) (fun i x j y hx hy => ?_)
  · obtain ⟨rfl, rfl⟩ := hj i x j y hx hy
    have := hc i _ hx
    simp [this]
  · obtain ⟨rfl, rfl⟩ := hj i x j y hx hy
    have := hc i _ hx
    simp [this]
    exact .keep _
end Go.Aw
