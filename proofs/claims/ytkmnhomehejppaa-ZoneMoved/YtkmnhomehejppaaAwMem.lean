/- What new blocks, stores and appends do to a state. -/
import Derived.Test.YtkmnhomehejppaaAwStep3
import Derived.Laws.AppendOwn
set_option linter.unusedSimpArgs false
set_option linter.unusedVariables false
set_option linter.deprecated false
namespace Go.Aw

def putS (d : Option Nat) (x : AV) (s : Slots) : Slots :=
  match d with
  | some t => (t, x) :: s
  | none => s

section
variable {X : Cx} {s : Slots} {own : Own} {a : Act} {w : World}

theorem Rep.put (R : Rep X s own a w) (d : Option Nat) (hd : d.all (· < X.n) = true) {v : Value} {x : AV} (hr : Rel (Fo X.fr own) w v x) : Rep X (putS d x s) own (a.put d v) w := by
  cases d with
  | none => exact R
  | some t =>
    have ht : t < X.n := by simpa using hd
    refine ⟨fun u => ?_, R.ok, R.new, by simpa [Act.put] using R.size, R.defs, R.kept⟩
    simp only [putS, Slots.get, Act.put]
    by_cases hu : t = u
    · subst hu
      have : t < a.tmps.size := by rw [R.size]; exact ht
      simp [this, hr]
    · rw [if_neg hu]
      have := R.tm u
      simp only [Array.getD_eq_getD_getElem?, Array.getElem?_setIfInBounds, if_neg hu] at this ⊢
      exact this

theorem grow_alloc (w : World) (o : Obj) : Grow (fun _ => False) w (w.alloc o) := by
  refine ⟨by simp, fun b hb _ => RowKit.Below.heap_alloc w o b hb, fun b q hq => ?_, fun b hb i => ?_, rfl, rfl, rfl⟩
  · have := shape_lt hq
    unfold World.shape? at hq ⊢
    rw [RowKit.Below.heap_alloc w o b this]
    exact hq
  · exact World.frozen?_alloc_old w _ _ (by simp; omega)

theorem fo_cons {fr : Nat → Prop} {own : Own} {k b : Nat} {ob : Ob} {x : Nat} : Fo fr ((k, b, ob) :: own) x ↔ x = b ∨ Fo fr own x := by
  unfold Fo Own.has
  simp
  constructor
  · rintro (h | h | h)
    · exact .inr (.inl h)
    · exact .inl h
    · exact .inr (.inr h)
  · rintro (h | h | h)
    · exact .inr (.inl h)
    · exact .inl h
    · exact .inr (.inr h)

theorem has_cons {own : Own} {k b : Nat} {ob : Ob} {x : Nat} : Own.has ((k, b, ob) :: own) x ↔ x = b ∨ own.has x := by
  unfold Own.has
  simp

theorem OwnOk.lt (h : OwnOk X.fr w own) {b : Nat} (hb : own.has b) : b < w.heap.size := by
  unfold Own.has at hb
  obtain ⟨e, he, rfl⟩ := List.mem_map.1 hb
  exact (h.holds e he).lt

theorem OwnOk.foLt {fr : Nat → Prop} (h : OwnOk fr w own) {b : Nat} (hb : Fo fr own b) : b < w.heap.size := by
  rcases hb with hb | hb
  · exact h.fr b hb
  · unfold Own.has at hb
    obtain ⟨e, he, rfl⟩ := List.mem_map.1 hb
    exact (h.holds e he).lt

/-- the world has grown by blocks that nobody knows, and by what is behind 'D', which is owned by nobody here -/
theorem OwnOk.mono {fr : Nat → Prop} {w' : World} (h : OwnOk fr w own) (hg : Grow (fun _ => False) w w') : OwnOk fr w' own :=
  ⟨fun e he => (h.holds e he).mono hg (fun _ f => f.elim) (fun f => f) (fun _ _ h => h), h.nodup, h.apart, fun b hb => Nat.lt_of_lt_of_le (h.fr b hb) hg.sz⟩

theorem Rep.grow {w' : World} (R : Rep X s own a w) (hg : Grow (fun _ => False) w w') : Rep X s own a w' :=
  ⟨fun t => (R.tm t).mono (hg.mono fun _ _ f => f.elim) (fun _ _ h => h), R.ok.mono hg, R.new, R.size, R.defs.mono (fun _ _ h => h) (fun b hb _ => hg.same b hb (fun f => f)), R.kept.trans (hg.mono fun _ _ f => f.elim)⟩

/-- a new block of the call's own -/
theorem Rep.alloc (R : Rep X s own a w) (k : Nat) (c : Array Value) (T : TypeId) (zs : List AV) (hle : zs.length ≤ c.size)
    (hc : ∀ (i : Nat) (x : AV), zs[i]? = some x → ∃ v, c[i]? = some v ∧ v.oneCell' = true ∧ Rel (Fo X.fr own) w v x) :
    Rep X s ((k, w.heap.size, .cells zs) :: own) a (w.alloc (.cells c T)) := by
  have hg := grow_alloc w (.cells c T)
  have hF : ∀ b, b < w.heap.size → Fo X.fr ((k, w.heap.size, .cells zs) :: own) b → Fo X.fr own b := fun b hb h => by
    rcases fo_cons.1 h with h | h
    · omega
    · exact h
  have hgF : Grow (Fo X.fr own) w (w.alloc (.cells c T)) := hg.mono fun _ _ f => f.elim
  refine ⟨fun t => (R.tm t).mono hgF hF, ⟨fun e he => ?_, ?_, fun b hb => ?_, fun b hb => ?_⟩, fun b hb => ?_, R.size, R.defs.mono (fun b hb h => by
    rcases has_cons.1 h with h | h
    · omega
    · exact h) (fun b hb _ => hg.same b hb (fun f => f)), R.kept.trans (hg.mono fun _ _ f => f.elim)⟩
  · rcases List.mem_cons.1 he with rfl | he
    · refine ⟨⟨T, c.size, ?_, hle⟩, fun i => ?_, fun i x hx => ?_⟩
      · have : (w.alloc (.cells c T)).heap[w.heap.size]? = some (.cells c T) := by
          show (w.heap.push _)[w.heap.size]? = _
          simp
        simp only [World.shape?, this]
      · simp
      · obtain ⟨v, hv, ho, hr⟩ := hc i x hx
        exact ⟨v, by simp [hv], ho, hr.mono hgF hF⟩
    · exact (R.ok.holds e he).mono hg (fun _ f => f.elim) (fun f => f) hF
  · simp only [List.map_cons, List.nodup_cons]
    refine ⟨fun h => ?_, R.ok.nodup⟩
    have := R.ok.lt (X := X) (b := w.heap.size) h
    omega
  · rcases has_cons.1 hb with rfl | hb
    · intro h
      have := R.ok.fr _ h
      omega
    · exact R.ok.apart b hb
  · exact Nat.lt_of_lt_of_le (R.ok.fr b hb) hg.sz
  · rcases has_cons.1 hb with rfl | hb
    · exact .inr R.kept.sz
    · exact R.new b hb

theorem shape_setCell (w : World) (p : Addr) (v : Value) (b : Nat) : (w.setCell p v).shape? b = w.shape? b := by
  unfold World.shape? World.setCell
  simp only [Array.getElem?_modify]
  by_cases h : p.block = b
  · subst h
    rw [if_pos rfl]
    cases w.heap[p.block]? with
    | none => rfl
    | some o =>
      cases o <;> simp
      split <;> simp
  · rw [if_neg h]

theorem shape_setCells (b' : Nat) : ∀ (vs : List Value) (o : Nat) (w : World) (b : Nat), (w.setCells b' o vs).shape? b = w.shape? b
  | [], _, _, _ => rfl
  | v :: r, o, w, b => by
    rw [World.setCells, shape_setCells b' r, shape_setCell]

theorem heap_setCells (b' : Nat) : ∀ (vs : List Value) (o : Nat) (w : World) (b : Nat), b ≠ b' → (w.setCells b' o vs).heap[b]? = w.heap[b]?
  | [], _, _, _, _ => rfl
  | v :: r, o, w, b, h => by
    rw [World.setCells, heap_setCells b' r _ _ _ h, RowKit.Below.heap_setCell _ _ _ _ h]

theorem size_setCells (b' : Nat) : ∀ (vs : List Value) (o : Nat) (w : World), (w.setCells b' o vs).heap.size = w.heap.size
  | [], _, _ => rfl
  | v :: r, o, w => by
    rw [World.setCells, size_setCells b' r]
    simp

theorem rest_setCells (b' : Nat) : ∀ (vs : List Value) (o : Nat) (w : World), (w.setCells b' o vs).os = w.os ∧ (w.setCells b' o vs).tape = w.tape ∧ (w.setCells b' o vs).output = w.output
  | [], _, _ => ⟨rfl, rfl, rfl⟩
  | v :: r, o, w => rest_setCells b' r (o + 1) (w.setCell ⟨b', o, none⟩ v)

theorem grow_setCells (w : World) (b o : Nat) (vs : List Value) : Grow (fun x => x = b) w (w.setCells b o vs) := by
  obtain ⟨h1, h2, h3⟩ := rest_setCells b vs o w
  exact ⟨by rw [size_setCells]; exact Nat.le_refl _, fun x _ hx => heap_setCells b vs o w x hx, fun x q hq => by rw [shape_setCells]; exact hq, fun x _ i => World.frozen?_setCells b vs o w _, h1, h2, h3⟩

theorem put_keys (own : Own) (k : Nat) (ob : Ob) : (own.put k ob).map (fun e => e.2.1) = own.map (fun e => e.2.1) := by
  induction own with
  | nil => rfl
  | cons e r ih =>
    obtain ⟨k', b', ob'⟩ := e
    simp only [Own.put]
    split
    · rfl
    · simp [ih]

theorem put_mem {own : Own} {k b : Nat} {ob ob' : Ob} (hf : own.find k b = some ob') : ∀ e, e ∈ own.put k ob → e = (k, b, ob) ∨ (e ∈ own ∧ ((own.map fun e => e.2.1).Nodup → e.2.1 ≠ b)) := by
  induction own with
  | nil => cases hf
  | cons e r ih =>
    obtain ⟨k', b', ob2⟩ := e
    simp only [Own.find] at hf
    simp only [Own.put]
    intro e he
    split at hf
    · rename_i hk
      subst hk
      split at hf
      · rename_i hb
        subst hb
        rw [if_pos rfl] at he
        rcases List.mem_cons.1 he with rfl | he
        · exact .inl rfl
        · refine .inr ⟨List.mem_cons_of_mem _ he, fun hn hb => ?_⟩
          simp only [List.map_cons, List.nodup_cons] at hn
          exact hn.1 (List.mem_map.2 ⟨e, he, hb⟩)
      · cases hf
    · rename_i hk
      rw [if_neg hk] at he
      rcases List.mem_cons.1 he with rfl | he
      · refine .inr ⟨List.mem_cons_self .., fun hn hb => ?_⟩
        simp only [List.map_cons, List.nodup_cons] at hn
        have := Own.find_mem hf
        exact hn.1 (List.mem_map.2 ⟨_, this, hb.symm⟩)
      · rcases ih hf e he with h | ⟨h1, h2⟩
        · exact .inl h
        · refine .inr ⟨List.mem_cons_of_mem _ h1, fun hn => h2 ?_⟩
          simp only [List.map_cons, List.nodup_cons] at hn
          exact hn.2

/-- cells of an owned block written -/
theorem Rep.store (R : Rep X s own a w) {k b o : Nat} {cs : List AV} (hf : own.find k b = some (.cells cs)) {vs : Array Value} {xs : List AV} (hx : RelC (Fo X.fr own) w vs xs) (hle : o ≤ cs.length) (hle' : ∀ T sz, w.shape? b = some (T, sz) → cs.length ≤ sz → o + xs.length ≤ sz) :
    (∀ j, j < vs.toList.length → (w.cell? ⟨b, o + j, none⟩).isSome = true) ∧ (∀ j, j < vs.toList.length → w.frozen? ⟨b, o + j, none⟩ = false) ∧
    Rep X s (own.put k (.cells (cs.take o ++ xs ++ cs.drop (o + xs.length)))) a (w.setCells b o vs.toList) := by
  have hm := Own.find_mem hf
  obtain ⟨⟨T, sz, hs, hl⟩, hfz, hcs⟩ := R.ok.holds _ hm
  have hxl := hx.len
  have hsz := hle' T sz hs hl
  have hown : own.has b := List.mem_map.2 ⟨_, hm, rfl⟩
  have hcell : ∀ j, j < vs.toList.length → (w.cell? ⟨b, o + j, none⟩).isSome = true := fun j hj => shape_cell hs (by simp at hj; omega)
  have hg := grow_setCells w b o vs.toList
  have hF : ∀ x, Fo X.fr (own.put k (.cells (cs.take o ++ xs ++ cs.drop (o + xs.length)))) x ↔ Fo X.fr own x := fun x => by
    unfold Fo Own.has
    rw [put_keys]
  have hh : ∀ x, (own.put k (.cells (cs.take o ++ xs ++ cs.drop (o + xs.length)))).has x ↔ own.has x := fun x => by
    unfold Own.has
    rw [put_keys]
  have hgF : Grow (Fo X.fr own) w (w.setCells b o vs.toList) := hg.mono fun x _ hx => hx ▸ .inr hown
  refine ⟨hcell, fun j _ => hfz _, fun t => (R.tm t).mono hgF (fun x _ h => (hF x).1 h), ⟨fun e he => ?_, by rw [put_keys]; exact R.ok.nodup, fun x hx => R.ok.apart x ((hh x).1 hx), fun x hx => Nat.lt_of_lt_of_le (R.ok.fr x hx) hg.sz⟩, fun x hx => R.new x ((hh x).1 hx), R.size, R.defs.mono (fun x _ hx => (hh x).1 hx) (fun x hx hn => hg.same x hx (fun he => hn (he ▸ hown))), ?_⟩
  · rcases put_mem hf e he with rfl | ⟨h1, h2⟩
    · refine ⟨⟨T, sz, by rw [shape_setCells]; exact hs, by simp only [List.length_append, List.length_take, List.length_drop]; omega⟩, fun i => by rw [World.frozen?_setCells]; exact hfz i, fun i y hy => ?_⟩
      by_cases h1 : i < o
      · rw [List.append_assoc, List.getElem?_append_left (by simp; omega), List.getElem?_take_of_lt h1] at hy
        obtain ⟨v, hv, ho, hr⟩ := hcs i y hy
        refine ⟨v, ?_, ho, hr.mono hgF (fun x _ h => (hF x).1 h)⟩
        rw [World.cell?_setCells_out b vs.toList o w ⟨b, i, none⟩ (fun _ _ => .inl h1)]
        exact hv
      · rw [List.append_assoc, List.getElem?_append_right (by simp; omega)] at hy
        simp only [List.length_take, Nat.min_eq_left (show o ≤ cs.length by omega)] at hy
        have hlen : o + xs.length ≤ sz := hsz
        by_cases h2 : i < o + xs.length
        · rw [List.getElem?_append_left (by omega)] at hy
          have hlt : i - o < vs.toList.length := by simp; omega
          have hv : vs[i - o]? = some vs.toList[i - o] := by simp at hlt ⊢
          refine ⟨vs.toList[i - o], ?_, hx.one _ _ hv, (hx.rel _ _ _ hv hy).mono hgF (fun x _ h => (hF x).1 h)⟩
          have := World.cell?_setCells_in b vs.toList o w hcell (i - o) hlt
          rwa [show o + (i - o) = i by omega] at this
        · rw [List.getElem?_append_right (by omega), List.getElem?_drop, show o + xs.length + (i - o - xs.length) = i by omega] at hy
          obtain ⟨v, hv, ho, hr⟩ := hcs i y hy
          refine ⟨v, ?_, ho, hr.mono hgF (fun x _ h => (hF x).1 h)⟩
          rw [World.cell?_setCells_out b vs.toList o w ⟨b, i, none⟩ (fun _ _ => .inr (by simp; omega))]
          exact hv
    · have hne : e.2.1 ≠ b := h2 R.ok.nodup
      exact (R.ok.holds e h1).mono hg (fun x hx => hx ▸ .inr hown) hne (fun x _ h => (hF x).1 h)
  · have hk := R.kept
    have hb := R.new b hown
    refine ⟨Nat.le_trans hk.sz hg.sz, fun x hx hn => ?_, fun x q hq => hg.shp _ _ (hk.shp _ _ hq), fun x hx i => ?_, hg.os.trans hk.os, hg.tape.trans hk.tape, hg.out.trans hk.out⟩
    · have hne : x ≠ b := fun h => by
        subst h
        rcases hb with hb | hb
        · exact hn hb
        · omega
      exact (hg.same x (Nat.lt_of_lt_of_le hx hk.sz) hne).trans (hk.same x hx hn)
    · exact (World.frozen?_setCells _ _ _ _ _).trans (hk.frz x hx i)

/-- no more is said of an owned block -/
def ObLe : Ob → Ob → Prop
  | .cells cs, .cells cs' => ∀ (i : Nat) (x : AV), cs'[i]? = some x → cs[i]? = some x
  | .loop s p, .loop s' p' => s = s' ∧ ∀ r, p r → p' r
  | _, _ => False
theorem ObLe.refl : ∀ ob, ObLe ob ob
  | .cells _ => fun _ _ h => h
  | .loop _ _ => ⟨rfl, fun _ h => h⟩
theorem Holds.le {F : Nat → Prop} {w : World} {b : Nat} {ob ob' : Ob} (h : Holds F w b ob) (hl : ObLe ob ob') : Holds F w b ob' := by
  cases ob with
  | cells cs =>
    cases ob' with
    | loop => exact hl.elim
    | cells cs' =>
      obtain ⟨⟨T, sz, hs, hle⟩, hfz, hc⟩ := h
      refine ⟨⟨T, sz, hs, Nat.le_trans ?_ hle⟩, hfz, fun i x hx => hc i x (hl i x hx)⟩
      rcases Nat.lt_or_ge cs.length cs'.length with hlt | hge
      · have := hl cs.length _ (List.getElem?_eq_getElem hlt)
        simp at this
      · exact hge
  | loop s p =>
    cases ob' with
    | cells => exact hl.elim
    | loop s' p' =>
      obtain ⟨rfl, hp⟩ := hl
      obtain ⟨r, h1, h2, h3⟩ := h
      exact ⟨r, h1, hp r h2, h3⟩

/-- less is owned, or less is said of it -/
theorem Rep.reown (R : Rep X s own a w) (own' : Own) (h : ∀ e, e ∈ own' → ∃ e0, e0 ∈ own ∧ e0.2.1 = e.2.1 ∧ ObLe e0.2.2 e.2.2)
    (hn : (own'.map fun e => e.2.1).Nodup) : Rep X s own' a w := by
  have hh : ∀ b, own'.has b → own.has b := fun b hb => by
    obtain ⟨e, he, rfl⟩ := List.mem_map.1 hb
    obtain ⟨e0, h0, h1, _⟩ := h e he
    exact List.mem_map.2 ⟨e0, h0, h1⟩
  have hF : ∀ b, b < w.heap.size → Fo X.fr own' b → Fo X.fr own b := fun b _ hb => hb.imp id (hh b)
  refine ⟨fun t => (R.tm t).mono (Grow.refl _ _) hF, ⟨fun e he => ?_, hn, fun b hb => R.ok.apart b (hh b hb), R.ok.fr⟩, fun b hb => R.new b (hh b hb), R.size, R.defs.mono (fun b _ h => hh b h) (fun _ _ _ => rfl), R.kept⟩
  obtain ⟨e0, h0, h1, h2⟩ := h e he
  have hd := (R.ok.holds e0 h0).mono (F' := Fo X.fr own') (Grow.refl (fun _ => False) w) (fun _ f => f.elim) (fun f => f) hF
  rw [← h1]
  exact hd.le h2

theorem drop_sub (own : Own) (k : Nat) : (own.drop k).Sublist own := by
  induction own with
  | nil => exact List.Sublist.refl _
  | cons e r ih =>
    obtain ⟨k', b', ob'⟩ := e
    simp only [Own.drop]
    split
    · exact List.sublist_cons_self _ _
    · exact ih.cons₂ _

theorem drop_not {own : Own} {k b : Nat} {ob : Ob} (hf : own.find k b = some ob) (hn : (own.map fun e => e.2.1).Nodup) : b ∉ (own.drop k).map (fun e => e.2.1) := by
  induction own with
  | nil => cases hf
  | cons e r ih =>
    obtain ⟨k', b', ob'⟩ := e
    simp only [Own.find] at hf
    simp only [List.map_cons, List.nodup_cons] at hn
    simp only [Own.drop]
    split at hf
    · rename_i hk
      split at hf
      · rename_i hb
        subst hb
        rw [if_pos hk]
        exact hn.1
      · cases hf
    · rename_i hk
      rw [if_neg hk]
      simp only [List.map_cons, List.mem_cons, not_or]
      refine ⟨fun hb => ?_, ih hf hn.2⟩
      subst hb
      exact hn.1 (List.mem_map.2 ⟨_, Own.find_mem hf, rfl⟩)

theorem put_in {own : Own} {k b : Nat} {ob ob' : Ob} (hf : own.find k b = some ob') : (k, b, ob) ∈ own.put k ob := by
  induction own with
  | nil => cases hf
  | cons e r ih =>
    obtain ⟨k', b', ob2⟩ := e
    simp only [Own.find] at hf
    simp only [Own.put]
    split at hf
    · rename_i hk
      split at hf
      · rename_i hb
        rw [if_pos hk, hb, hk]
        exact List.mem_cons_self ..
      · cases hf
    · rename_i hk
      rw [if_neg hk]
      exact List.mem_cons_of_mem _ (ih hf)

theorem drop_put (own : Own) (k : Nat) (ob : Ob) : ∀ e, e ∈ own.drop k → e ∈ own.put k ob := by
  induction own with
  | nil => intro e h; exact h
  | cons e r ih =>
    obtain ⟨k', b', ob2⟩ := e
    intro e he
    simp only [Own.drop] at he
    simp only [Own.put]
    split at he
    · rename_i hk
      rw [if_pos hk]
      exact List.mem_cons_of_mem _ he
    · rename_i hk
      rw [if_neg hk]
      rcases List.mem_cons.1 he with rfl | he
      · exact List.mem_cons_self ..
      · exact List.mem_cons_of_mem _ (ih e he)
end
end Go.Aw
