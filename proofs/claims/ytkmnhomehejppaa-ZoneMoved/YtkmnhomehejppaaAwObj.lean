/- Objects that are no cells: the records of ranges over functions, and the blocks of their deferred calls. -/
import Derived.Test.YtkmnhomehejppaaAwMem
import Derived.RangeFuncRecord
set_option linter.unusedSimpArgs false
set_option linter.unusedVariables false
set_option linter.deprecated false
namespace Go.Aw

/-- From 'w' to 'w'' no cell turns; of the other objects only those of 'D'. -/
structure Calm (D : Nat → Prop) (w w' : World) : Prop where
  sz : w.heap.size ≤ w'.heap.size
  same : ∀ b, b < w.heap.size → ¬ D b → w'.heap[b]? = w.heap[b]?
  cell : ∀ b o v, w.cell? ⟨b, o, none⟩ = some v → w'.cell? ⟨b, o, none⟩ = some v
  shp : ∀ b s, w.shape? b = some s → w'.shape? b = some s
  frz : ∀ b, b < w.heap.size → ∀ i, w'.frozen? ⟨b, i, none⟩ = w.frozen? ⟨b, i, none⟩
  os : w'.os = w.os
  tape : w'.tape = w.tape
  out : w'.output = w.output

theorem Calm.refl (D : Nat → Prop) (w : World) : Calm D w w := ⟨Nat.le_refl _, fun _ _ _ => rfl, fun _ _ _ h => h, fun _ _ h => h, fun _ _ _ => rfl, rfl, rfl, rfl⟩
theorem Calm.grow {D : Nat → Prop} {w w' : World} (h : Calm D w w') : Grow D w w' := ⟨h.sz, h.same, h.shp, h.frz, h.os, h.tape, h.out⟩

theorem Rel.calm {F D : Nat → Prop} {w w' : World} {v : Value} {x : AV} (h : Rel F w v x) (hg : Calm D w w') : Rel F w' v x := by
  induction h with
  | any v => exact .any v
  | int k n => exact .int k n
  | bool b => exact .bool b
  | str l => exact .str l
  | lit v => exact .lit v
  | ptr k b o => exact .ptr k b o
  | row k b o n s cap csz T hn hs hc => exact .row k b o n s cap csz T hn (hg.shp _ _ hs) hc
  | nil => exact .nil
  | slnil => exact .slnil
  | sl0 a cap => exact .sl0 a cap
  | sl b o n cap s xs cv hFb hb hlen hn hs hc ho hr ih =>
    exact .sl b o n cap s xs cv hFb (Nat.lt_of_lt_of_le hb hg.sz) hlen hn hs (fun i x j y hi hj => hg.cell _ _ _ (hc i x j y hi hj)) ho ih
  | ref b o cs cv hFb hb hc ho hr ih =>
    exact .ref b o cs cv hFb (Nat.lt_of_lt_of_le hb hg.sz) (fun j y hj => hg.cell _ _ _ (hc j y hj)) ho ih
  | agg vs cs hlen ho hr ih => exact .agg vs cs hlen ho ih
  | tup vs cs hlen hr ih => exact .tup vs cs hlen ih
  | fn f as bs fs cs hlen hlen' hr hr' ih ih' => exact .fn f as bs fs cs hlen hlen' ih ih'
  | ifc t v x hr ih => exact .ifc t v x ih

theorem Holds.calm {F D : Nat → Prop} {w w' : World} {b : Nat} {ob : Ob} (h : Holds F w b ob) (hg : Calm D w w') (hb : ¬ D b) : Holds F w' b ob := by
  have hlt := h.lt
  cases ob with
  | cells cs =>
    obtain ⟨⟨T, sz, h1, h3⟩, h2, h4⟩ := h
    refine ⟨⟨T, sz, hg.shp _ _ h1, h3⟩, fun i => (hg.frz b hlt i).trans (h2 i), fun i x hx => ?_⟩
    obtain ⟨v, hv, ho, hr⟩ := h4 i x hx
    exact ⟨v, hg.cell _ _ _ hv, ho, hr.calm hg⟩
  | loop s p =>
    obtain ⟨r, h1, h2, h3⟩ := h
    exact ⟨r, (hg.same b hlt hb).trans h1, h2, fun t => (h3 t).calm hg⟩

theorem OwnOk.calm {fr D : Nat → Prop} {w w' : World} {own : Own} (h : OwnOk fr w own) (hg : Calm D w w') (hD : ∀ b, D b → ¬ own.has b) : OwnOk fr w' own :=
  ⟨fun e he => (h.holds e he).calm hg (fun hd => hD _ hd (List.mem_map.2 ⟨e, he, rfl⟩)), h.nodup, h.apart, fun b hb => Nat.lt_of_lt_of_le (h.fr b hb) hg.sz⟩

def isC : Obj → Bool
  | .cells .. => true
  | _ => false

theorem putObj_cell {w : World} {r : Nat} {o o' : Obj} (h : w.heap[r]? = some o) (ho : isC o = false) (ho' : isC o' = false) (p : Addr) : (w.putObj r o').cell? p = w.cell? p := by
  have hlt := (Array.getElem?_eq_some_iff.1 h).1
  unfold World.cell?
  by_cases hb : p.block = r
  · subst hb
    rw [World.putObj_heap_same hlt, h]
    cases o <;> cases o' <;> simp_all [isC]
  · rw [World.putObj_heap_other hb]

theorem putObj_calm {w : World} {r : Nat} {o o' : Obj} (h : w.heap[r]? = some o) (ho : isC o = false) (ho' : isC o' = false) : Calm (fun x => x = r) w (w.putObj r o') := by
  have hlt := (Array.getElem?_eq_some_iff.1 h).1
  refine ⟨by simp, fun b _ hb => World.putObj_heap_other hb, fun b i v hv => by rw [putObj_cell h ho ho']; exact hv, fun b q hq => ?_, fun b _ i => ?_, rfl, rfl, rfl⟩
  · unfold World.shape? at hq ⊢
    by_cases hb : b = r
    · subst hb
      rw [h] at hq
      cases o <;> simp_all [isC]
    · rw [World.putObj_heap_other hb]; exact hq
  · unfold World.frozen?
    by_cases hb : b = r
    · subst hb
      simp only [World.putObj_heap_same hlt, h]
      cases o <;> cases o' <;> simp_all [isC]
    · simp only [World.putObj_heap_other hb]

section
variable {X : Cx} {s : Slots} {own : Own} {a : Act} {w : World}

/-- an owned record turns -/
theorem Rep.setLoop (R : Rep X s own a w) {k l : Nat} {s' : Slots} {p p' : Loop → Prop} (hf : own.find k l = some (.loop s' p)) {r r' : Loop} (hl : w.heap[l]? = some (.loop r)) (ht : r'.tmps = r.tmps) (hp : p' r') :
    Rep X s (own.put k (.loop s' p')) a (w.putObj l (.loop r')) ∧ Grow own.has w (w.putObj l (.loop r')) := by
  have hm := Own.find_mem hf
  have hown : own.has l := List.mem_map.2 ⟨_, hm, rfl⟩
  have hg := putObj_calm (o' := .loop r') hl rfl rfl
  have hh : ∀ x, (own.put k (.loop s' p')).has x ↔ own.has x := fun x => by
    unfold Own.has
    rw [put_keys]
  have hF : ∀ x, Fo X.fr (own.put k (.loop s' p')) x ↔ Fo X.fr own x := fun x => by
    unfold Fo
    rw [hh]
  have hgo : Grow own.has w (w.putObj l (.loop r')) := hg.grow.mono fun x _ hx => hx ▸ hown
  have hrel : ∀ {v x}, Rel (Fo X.fr own) w v x → Rel (Fo X.fr (own.put k (.loop s' p'))) (w.putObj l (.loop r')) v x := fun h => (h.calm hg).mono (Grow.refl _ _) (fun x _ h => (hF x).1 h)
  refine ⟨⟨fun t => hrel (R.tm t), ⟨fun e he => ?_, by rw [put_keys]; exact R.ok.nodup, fun x hx => R.ok.apart x ((hh x).1 hx), fun x hx => Nat.lt_of_lt_of_le (R.ok.fr x hx) hg.sz⟩, fun x hx => R.new x ((hh x).1 hx), R.size, R.defs.mono (fun x _ hx => (hh x).1 hx) (fun x hx hn => hg.same x hx (fun he => hn (he ▸ hown))), ?_⟩, hgo⟩
  · rcases put_mem hf e he with rfl | ⟨h1, h2⟩
    · obtain ⟨r0, h0, _, h3⟩ := R.ok.holds _ hm
      simp only at h0
      rw [hl] at h0
      cases h0
      exact ⟨r', World.putObj_heap_same (Array.getElem?_eq_some_iff.1 hl).1, hp, fun t => by rw [ht]; exact hrel (h3 t)⟩
    · have hne : e.2.1 ≠ l := h2 R.ok.nodup
      exact ((R.ok.holds e h1).calm hg hne).mono (D := fun _ => False) (Grow.refl _ _) (fun _ f => f.elim) (fun f => f) (fun x _ h => (hF x).1 h)
  · have hk := R.kept
    have hb := R.new l hown
    have hg := hg.grow
    refine ⟨Nat.le_trans hk.sz hg.sz, fun x hx hn => ?_, fun x q hq => hg.shp _ _ (hk.shp _ _ hq), fun x hx i => ?_, hg.os.trans hk.os, hg.tape.trans hk.tape, hg.out.trans hk.out⟩
    · have hne : x ≠ l := fun h => by
        subst h
        rcases hb with hb | hb
        · exact hn hb
        · omega
      exact (hg.same x (Nat.lt_of_lt_of_le hx hk.sz) hne).trans (hk.same x hx hn)
    · exact (hg.frz x (Nat.lt_of_lt_of_le hx hk.sz) i).trans (hk.frz x hx i)

/-- a new record, owned -/
theorem Rep.newLoop (R : Rep X s own a w) (k : Nat) (s' : Slots) (p : Loop → Prop) (r : Loop) (hp : p r) (ht : ∀ t, Rel (Fo X.fr own) w (r.tmps.getD t undef) (s'.get t)) :
    Rep X s ((k, w.heap.size, .loop s' p) :: own) a (w.alloc (.loop r)) := by
  have hg := grow_alloc w (.loop r)
  have hF : ∀ b, b < w.heap.size → Fo X.fr ((k, w.heap.size, .loop s' p) :: own) b → Fo X.fr own b := fun b hb h => by
    rcases fo_cons.1 h with h | h
    · omega
    · exact h
  have hgF : Grow (Fo X.fr own) w (w.alloc (.loop r)) := hg.mono fun _ _ f => f.elim
  refine ⟨fun t => (R.tm t).mono hgF hF, ⟨fun e he => ?_, ?_, fun b hb => ?_, fun b hb => ?_⟩, fun b hb => ?_, R.size, R.defs.mono (fun b hb h => by
    rcases has_cons.1 h with h | h
    · omega
    · exact h) (fun b hb _ => hg.same b hb (fun f => f)), R.kept.trans (hg.mono fun _ _ f => f.elim)⟩
  · rcases List.mem_cons.1 he with rfl | he
    · exact ⟨r, World.alloc_heap_new w _, hp, fun t => (ht t).mono hgF hF⟩
    · exact (R.ok.holds e he).mono hg (fun _ f => f.elim) (fun f => f) hF
  · simp only [List.map_cons, List.nodup_cons]
    refine ⟨fun h => ?_, R.ok.nodup⟩
    have := R.ok.lt (X := X) (b := w.heap.size) h
    omega
  · rcases has_cons.1 hb with rfl | hb
    · intro h
      have := R.ok.fr _ h
      omega
    · exact R.ok.apart b hb
  · exact Nat.lt_of_lt_of_le (R.ok.fr b hb) hg.sz
  · rcases has_cons.1 hb with rfl | hb
    · exact .inr R.kept.sz
    · exact R.new b hb

/-- a mark more: its block is new -/
theorem Rep.mark (R : Rep X s own a w) : Rep X s own { a with defers := markD w.heap.size :: a.defers } (w.alloc (.deferred (some []))) := by
  have hg := grow_alloc w (.deferred (some []))
  have R2 := R.grow hg
  refine ⟨R2.tm, R2.ok, R2.new, R2.size, ?_, R2.kept⟩
  obtain ⟨bs, h1, h2, h3⟩ := R.defs
  refine ⟨w.heap.size :: bs, by simp [h1], ?_, fun b hb => ?_⟩
  · simp only [List.nodup_cons]
    refine ⟨fun h => ?_, h2⟩
    have := (Array.getElem?_eq_some_iff.1 (h3 _ h).2.2.2).1
    omega
  · rcases List.mem_cons.1 hb with rfl | hb
    · refine ⟨fun h => ?_, fun h => ?_, R.kept.sz, World.alloc_heap_new w _⟩
      · have := R.ok.lt (X := X) h
        omega
      · have := R.ok.fr _ h
        omega
    · obtain ⟨h4, h5, h6, h7⟩ := h3 b hb
      exact ⟨h4, h5, h6, (hg.same b (Array.getElem?_eq_some_iff.1 h7).1 (fun f => f)).trans h7⟩

/-- the marks' blocks shut -/
def shut (w : World) : List Nat → World
  | [] => w
  | b :: r => shut (w.putObj b (.deferred none)) r

theorem shut_calm : ∀ (bs : List Nat) (w : World), bs.Nodup → (∀ b, b ∈ bs → w.heap[b]? = some (.deferred (some []))) → Calm (fun x => x ∈ bs) w (shut w bs)
  | [], w, _, _ => Calm.refl _ _
  | b :: r, w, hn, h => by
    simp only [List.nodup_cons] at hn
    have h1 := putObj_calm (o' := .deferred none) (h b (List.mem_cons_self ..)) rfl rfl
    have h2 := shut_calm r (w.putObj b (.deferred none)) hn.2 (fun c hc => by
      have hne : c ≠ b := fun he => hn.1 (by rw [← he]; exact hc)
      rw [World.putObj_heap_other hne]
      exact h c (List.mem_cons_of_mem _ hc))
    refine ⟨Nat.le_trans h1.sz h2.sz, fun c hc hd => ?_, fun c o v hv => h2.cell _ _ _ (h1.cell _ _ _ hv), fun c q hq => h2.shp _ _ (h1.shp _ _ hq), fun c hc i => (h2.frz c (Nat.lt_of_lt_of_le hc h1.sz) i).trans (h1.frz c hc i), h2.os.trans h1.os, h2.tape.trans h1.tape, h2.out.trans h1.out⟩
    simp only [List.mem_cons, not_or] at hd
    exact (h2.same c (Nat.lt_of_lt_of_le hc h1.sz) hd.2).trans (h1.same c hc hd.1)

theorem leaves_marks {F : Fence} {n : Nat} {P : Program} {fn : Func} {tmps : Array Value} {R : Ending → World → Prop} {u : FrameMode} (hu : u ≠ .run) : ∀ (bs : List Nat) (w : World), bs.Nodup → (∀ b, b ∈ bs → w.heap[b]? = some (.deferred (some []))) →
    LeavesIn F n P fn tmps R [] u (shut w bs) → LeavesInM F n P fn tmps R (bs.map markD) u w
  | [], w, _, _, h => h
  | b :: r, w, hn, hb, h => by
    simp only [List.nodup_cons] at hn
    refine ⟨hu, .inl ⟨b, _, rfl, run_takeDeferred (hb b (List.mem_cons_self ..)), ?_⟩⟩
    exact leaves_marks hu r _ hn.2 (fun c hc => by
      have hne : c ≠ b := fun he => hn.1 (by rw [← he]; exact hc)
      rw [World.putObj_heap_other hne]
      exact hb c (List.mem_cons_of_mem _ hc)) h

/-- the marks' blocks shut: nothing else is felt -/
theorem Rep.shut (R : Rep X s own a w) {bs : List Nat} (h2 : bs.Nodup) (h3 : ∀ b, b ∈ bs → ¬ own.has b ∧ ¬ X.fr b ∧ X.w0.heap.size ≤ b ∧ w.heap[b]? = some (.deferred (some []))) (hd : X.defs = []) :
    Rep X s own { a with defers := [] } (Aw.shut w bs) := by
  have hc := shut_calm bs w h2 (fun b hb => (h3 b hb).2.2.2)
  refine ⟨fun t => (R.tm t).calm hc, R.ok.calm hc (fun b hb => (h3 b hb).1), R.new, R.size, ⟨[], by simp [hd], List.nodup_nil, by simp⟩, ?_⟩
  have hk := R.kept
  refine ⟨Nat.le_trans hk.sz hc.sz, fun x hx hn => (hc.same x (Nat.lt_of_lt_of_le hx hk.sz) (fun hd => ?_)).trans (hk.same x hx hn), fun x q hq => hc.shp _ _ (hk.shp _ _ hq), fun x hx i => (hc.frz x (Nat.lt_of_lt_of_le hx hk.sz) i).trans (hk.frz x hx i), hc.os.trans hk.os, hc.tape.trans hk.tape, hc.out.trans hk.out⟩
  have := (h3 x hd).2.2.1
  omega
end
end Go.Aw
