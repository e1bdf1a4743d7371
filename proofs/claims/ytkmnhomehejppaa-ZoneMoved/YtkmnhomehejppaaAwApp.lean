/- append, over abstract values. -/
import Derived.Test.YtkmnhomehejppaaAwObj
set_option linter.unusedSimpArgs false
set_option linter.unusedVariables false
set_option linter.deprecated false
namespace Go.Aw

/-- the elements of a slice: how many, and their cells -/
def elemsOf (own : Own) (sz : Nat) (y : AV) (K : Nat → List AV → Prop) : Prop :=
  match y with
  | .nil => K 0 []
  | .sl ys => (∀ x, x ∈ ys → x.cells.length = sz) ∧ K ys.length (ys.flatMap AV.cells)
  | .row k b o m z => z = sz ∧ match own.find k b with
    | some (.cells cs) => o + m * sz ≤ cs.length ∧ K m ((cs.drop o).take (m * sz))
    | _ => False
  | _ => False

def ElemsV (w : World) (y : Value) (m : Nat) (vs : List Value) : Prop :=
  ((y = .slice none 0 0 ∨ ∃ a cap, y = .slice (some a) 0 cap) ∧ m = 0 ∧ vs = []) ∨ ∃ b o cap, y = .slice (some ⟨b, o, none⟩) m cap ∧ ∀ (j : Nat) (v : Value), vs[j]? = some v → w.cell? ⟨b, o + j, none⟩ = some v

theorem flat_get {sz : Nat} : ∀ (ys : List AV) (_ : ∀ x, x ∈ ys → x.cells.length = sz) (_ : 0 < sz), (ys.flatMap AV.cells).length = ys.length * sz ∧
    ∀ (i : Nat) (y : AV), (ys.flatMap AV.cells)[i]? = some y → ∃ x, ys[i / sz]? = some x ∧ x.cells[i % sz]? = some y
  | [], _, _ => ⟨by simp, fun i y h => by simp at h⟩
  | x :: r, hs, hz => by
    obtain ⟨h1, h2⟩ := flat_get r (fun y hy => hs y (List.mem_cons_of_mem _ hy)) hz
    have hx := hs x (List.mem_cons_self ..)
    refine ⟨by simp [List.flatMap_cons, h1, hx, Nat.add_mul]; omega, fun i y h => ?_⟩
    rw [List.flatMap_cons] at h
    by_cases hi : i < sz
    · rw [List.getElem?_append_left (by omega)] at h
      exact ⟨x, by simp [Nat.div_eq_of_lt hi], by rw [Nat.mod_eq_of_lt hi]; exact h⟩
    · rw [List.getElem?_append_right (by omega), hx] at h
      obtain ⟨z, hz1, hz2⟩ := h2 _ _ h
      have hd : i / sz = (i - sz) / sz + 1 := by
        rw [show i = (i - sz) + sz by omega, Nat.add_div_right _ hz]
        simp
      have hm : i % sz = (i - sz) % sz := by
        conv => lhs; rw [show i = (i - sz) + sz by omega]
        rw [Nat.add_mod_right]
      exact ⟨z, by rw [hd]; simpa using hz1, by rw [hm]; exact hz2⟩

section
variable {X : Cx} {s : Slots} {own : Own} {a : Act} {w : World}

theorem elems_vals (R : Rep X s own a w) {v : Value} {y : AV} (hv : Rel (Fo X.fr own) w v y) {sz : Nat} (hz : 0 < sz) {K : Nat → List AV → Prop} (h : elemsOf own sz y K) :
    ∃ m cells vs, K m cells ∧ ElemsV w v m vs ∧ vs.length = m * sz ∧ cells.length = m * sz ∧ RelC (Fo X.fr own) w vs.toArray cells := by
  cases hv with
  | nil => exact ⟨0, [], [], h, .inl ⟨.inl rfl, rfl, rfl⟩, by simp, by simp, by constructor <;> simp⟩
  | slnil => exact ⟨0, [], [], by simpa [elemsOf] using h, .inl ⟨.inl rfl, rfl, rfl⟩, by simp, by simp, by constructor <;> simp⟩
  | sl0 a0 cap => exact ⟨0, [], [], by simpa [elemsOf] using h, .inl ⟨.inr ⟨a0, cap, rfl⟩, rfl, rfl⟩, by simp, by simp, by constructor <;> simp⟩
  | sl b o n cap s' ys cv hF hb hlen hn hs hc ho hr =>
    obtain ⟨hsz, hK⟩ := h
    obtain ⟨hl, hg⟩ := flat_get ys hsz hz
    have key : ∀ (i : Nat) (y : AV), (ys.flatMap AV.cells)[i]? = some y → w.cell? ⟨b, o + i, none⟩ = some (cv i) ∧ (cv i).oneCell' = true ∧ Rel (Fo X.fr own) w (cv i) y := by
      intro i y hy
      obtain ⟨x, hx1, hx2⟩ := hg i y hy
      have hss : s' = sz := by rw [← hsz x (List.mem_of_getElem? hx1)]; exact (hs _ _ hx1).symm
      have he : i / sz * s' + i % sz = i := by rw [hss]; exact Nat.div_add_mod' i sz
      have h1 := hc _ _ _ _ hx1 hx2
      have h2 := ho _ _ _ _ hx1 hx2
      have h3 := hr _ _ _ _ hx1 hx2
      rw [Nat.add_assoc, he] at h1
      rw [he] at h2 h3
      exact ⟨h1, h2, h3⟩
    have hget : ∀ (j : Nat) (v : Value), ((List.range (ys.length * sz)).map cv)[j]? = some v → j < ys.length * sz ∧ v = cv j := fun j v hj => by
      have hlt : j < ys.length * sz := by have := (List.getElem?_eq_some_iff.1 hj).1; simpa using this
      simp [hlt] at hj
      exact ⟨hlt, hj.symm⟩
    refine ⟨_, _, (List.range (ys.length * sz)).map cv, hK, .inr ⟨b, o, cap, by rw [hlen], fun j v hj => ?_⟩, by simp, hl, ⟨by simp [hl], fun j v hj => ?_, fun j v y hj hy => ?_⟩⟩
    · obtain ⟨hlt, rfl⟩ := hget j v hj
      exact (key j _ (List.getElem?_eq_getElem (by omega))).1
    · obtain ⟨hlt, rfl⟩ := hget j v (by simpa using hj)
      exact (key j _ (List.getElem?_eq_getElem (by omega))).2.1
    · obtain ⟨hlt, rfl⟩ := hget j v (by simpa using hj)
      exact (key j _ hy).2.2
  | row k b o n z cap csz T hn hs hc =>
    obtain ⟨rfl, h⟩ := h
    cases hf : own.find k b with
    | none => simp [hf] at h
    | some ob =>
      obtain ⟨cs⟩ | ⟨_, _⟩ := ob
      rotate_left
      · simp [hf] at h
      simp only [hf] at h
      obtain ⟨hle, hK⟩ := h
      obtain ⟨_, _, h4⟩ := R.ok.holds _ (Own.find_mem hf)
      obtain ⟨vs, hvl, hvc, hvr⟩ := vals_of (c := fun i => w.cell? ⟨b, i, none⟩) h4 o (n * z) hle
      exact ⟨_, _, vs, hK, .inr ⟨b, o, cap, rfl, fun j v hj => (hvc j v hj).1⟩, hvl, by simp; omega, ⟨by simp; omega, fun j v hj => (hvc j v (by simpa using hj)).2, fun j v y hj hy => hvr j v y (by simpa using hj) hy⟩⟩
  | _ => simp [elemsOf] at h

theorem firstCells_elems {P : Program} {y : Value} {m sz : Nat} {vs : List Value} (h : ElemsV w y m vs) (hl : vs.length = m * sz) : (Builtin.firstCells sz m y).run P w = .ok vs.toArray w ∧ (Builtin.lenOf y).run P w = .ok m w := by
  rcases h with ⟨rfl | ⟨a0, cap, rfl⟩, rfl, rfl⟩ | ⟨b, o, cap, rfl, hc⟩
  · exact ⟨run_firstCells_none w _ _ _ _, rfl⟩
  · exact ⟨by simp [Builtin.firstCells, loadCells, loadCellsFrom], rfl⟩
  · exact ⟨run_firstCells_some w sz m _ m cap vs hl (fun j v hj => by rw [add_at]; exact hc j v hj), rfl⟩

theorem ElemsV.drew {y : Value} {m : Nat} {vs : List Value} (h : ElemsV w y m vs) : ElemsV w.drew y m vs := h

/-- the run of an append where there is room -/
theorem run_room {P : Program} (t ty e : TypeId) (i : TypeInfo) (ht : P.underlying t = some (.slice e)) (hi : P.info? e = some i) (b n cap m : Nat) (y : Value) (vs : List Value) (hv : ElemsV w y m vs) (hl : vs.length = m * i.size)
    (hroom : n + m ≤ cap) (hc : ∀ j, j < vs.length → (w.cell? ⟨b, n * i.size + j, none⟩).isSome = true) (hf : ∀ j, j < vs.length → w.frozen? ⟨b, n * i.size + j, none⟩ = false) (h1 : ∀ v ∈ vs, v.oneCell' = true) :
    (Builtin.append_ #[t, t] ty #[.slice (some ⟨b, 0, none⟩) n cap, y]).run P w = .ok (.slice (some ⟨b, 0, none⟩) (n + m) cap) (w.setCells b (n * i.size) vs) := by
  obtain ⟨h2, h3⟩ := firstCells_elems (P := P) hv hl
  have hst := run_storeCells_cells (P := P) b (n * i.size) vs 0 w (by simpa using hc) (by simpa using hf) h1
  simp only [Nat.add_zero] at hst
  simp [Builtin.append_, run_underlying ht, run_size hi, h2, h3, hroom, add_at, hst]

/-- the run of an append where there is none -/
theorem run_grow {P : Program} (t ty e : TypeId) (i : TypeInfo) (z : Value) (ht : P.underlying t = some (.slice e)) (hi : P.info? e = some i) (hz : i.zero = some z) (x y : Value) (n cap m : Nat) (os vs : List Value)
    (hx : (x = .slice none 0 0 ∧ n = 0 ∧ cap = 0 ∧ os = []) ∨ ∃ b, x = .slice (some ⟨b, 0, none⟩) n cap ∧ ∀ (j : Nat) (v : Value), os[j]? = some v → w.cell? ⟨b, j, none⟩ = some v) (ho : os.length = n * i.size)
    (hv : ElemsV w y m vs) (hl : vs.length = m * i.size) (hroom : cap < n + m) (hfit : (n + m) * i.bytes ≤ 140737488355328) (h63 : n + m ≤ 9223372036854775807) :
    (Builtin.append_ #[t, t] ty #[x, y]).run P w = .ok (.slice (some ⟨w.heap.size, 0, none⟩) (n + m) (grownCap w (n + m) cap e))
      (w.drew.alloc (.cells ((os ++ vs).toArray ++ Builtin.zeroCells z.cells (grownCap w (n + m) cap e - (n + m))) e)) := by
  obtain ⟨h2, h3⟩ := firstCells_elems (P := P) hv hl
  obtain ⟨h2', _⟩ := firstCells_elems (P := P) hv.drew hl
  have hr : ¬ (n + m ≤ cap) := by omega
  have h63' : ¬ (9223372036854775807 < ((n : Int) + (m : Int))) := by omega
  have hcap := growslice_fits (need := n + m) (old := cap) (bytes := i.bytes) hroom hfit
  have hcap' : ¬ (281474976710656 < Builtin.nextslicecap (n + m) cap * i.bytes) := by omega
  have happ : ∀ c : Array Value, (os.toArray ++ (vs.toArray ++ c)) = (os ++ vs).toArray ++ c := fun c => by
    apply Array.ext'
    simp
  rcases hx with ⟨rfl, rfl, rfl, rfl⟩ | ⟨b, rfl, hb⟩
  · simp only [Nat.zero_add] at *
    have hm0 : ¬ m = 0 := by omega
    have hm1 : ¬ (9223372036854775807 < (m : Int)) := by omega
    simp [Builtin.append_, hm0, hm1, run_underlying ht, run_size hi, h3, hr, run_tinfo hi, zeroValue, hz, h63', hcap', Question.forced, run_firstCells_none, h2', newRow, grownCap]
  · have hfo := run_firstCells_some (P := P) w.drew i.size n ⟨b, 0, none⟩ n cap os ho (fun j v hj => by rw [add_at, Nat.zero_add]; exact hb j v hj)
    simp [Builtin.append_, run_underlying ht, run_size hi, h3, hr, run_tinfo hi, zeroValue, hz, h63', hcap', Question.forced, hfo, h2', newRow, grownCap, happ]

def appA (own : Own) (d : Option Nat) (sz bytes : Nat) (x y : AV) (s : Slots) (K : Slots → Own → Prop) : Prop :=
  match x with
  | .nil => elemsOf own sz y fun m cells => m * bytes ≤ 140737488355328 ∧ m ≤ 140737488355328 ∧ (m = 0 → K (putS d .nil s) own) ∧ (0 < m → ∀ b, K (putS d (.row (d.getD 0) b 0 m sz) s) ((d.getD 0, b, .cells cells) :: own))
  | .row k b o n z => o = 0 ∧ z = sz ∧ match own.find k b with
    | some (.cells cs) => elemsOf own sz y fun m cells => n * sz ≤ cs.length ∧ (n + m) * bytes ≤ 140737488355328 ∧ n + m ≤ 140737488355328 ∧
        ∀ b', K (putS d (.row (d.getD 0) b' 0 (n + m) sz) s) ((d.getD 0, b', .cells (cs.take (n * sz) ++ cells)) :: own.drop k)
    | _ => False
  | _ => False

theorem app_sound (R : Rep X s own a w) (d : Option Nat) (hd : d.all (· < X.n) = true) (t ty e : TypeId) (i : TypeInfo) (z : Value) (ht : X.P.underlying t = some (.slice e)) (hi : X.P.info? e = some i) (hz : i.zero = some z) (hzs : z.cells.size = i.size) (hpos : 0 < i.size)
    {v u : Value} {x y : AV} (hx : Rel (Fo X.fr own) w v x) (hy : Rel (Fo X.fr own) w u y) {K : Slots → Own → Prop} (h : appA own d i.size i.bytes x y s K) :
    ∃ r w', (Builtin.append_ #[t, t] ty #[v, u]).run X.P w = .ok r w' ∧ ∃ s' own', K s' own' ∧ Rep X s' own' (a.put d r) w' := by
  have fresh : ∀ (s0 : Slots) (own0 : Own) (W : World), Rep X s0 own0 a W → ∀ (cs : List AV) (vs : List Value) (m cap : Nat), RelC (Fo X.fr own0) W vs.toArray cs → vs.length = m * i.size → m ≤ cap →
      Rep X (putS d (.row (d.getD 0) W.heap.size 0 m i.size) s0) ((d.getD 0, W.heap.size, .cells cs) :: own0) (a.put d (.slice (some ⟨W.heap.size, 0, none⟩) m cap)) (W.alloc (.cells (vs.toArray ++ Builtin.zeroCells z.cells (cap - m)) e)) := by
    intro s0 own0 W R0 cs vs m cap hrc hvl hmc
    have hl := hrc.len
    simp at hl
    have hR := R0.alloc (d.getD 0) (vs.toArray ++ Builtin.zeroCells z.cells (cap - m)) e cs (by simp; omega) (fun j x hx => by
      have hlt : j < vs.toArray.size := by have := (List.getElem?_eq_some_iff.1 hx).1; simp; omega
      refine ⟨vs.toArray[j], by rw [Array.getElem?_append_left hlt]; exact Array.getElem?_eq_getElem hlt, hrc.one j _ (Array.getElem?_eq_getElem hlt), hrc.rel j _ _ (Array.getElem?_eq_getElem hlt) hx⟩)
    refine hR.put d hd (.row _ _ _ _ _ cap ((vs.toArray ++ Builtin.zeroCells z.cells (cap - m)).size) e hmc ?_ ?_)
    · have : (W.alloc (.cells (vs.toArray ++ Builtin.zeroCells z.cells (cap - m)) e)).heap[W.heap.size]? = some (.cells (vs.toArray ++ Builtin.zeroCells z.cells (cap - m)) e) := by
        show (W.heap.push _)[W.heap.size]? = _
        simp
      simp only [World.shape?, this]
    · simp only [Array.size_append, List.size_toArray, hvl, size_zeroCells, hzs, ← Nat.add_mul]
      rw [show m + (cap - m) = cap by omega]
      omega
  have hdrew : Grow (fun _ => False) w w.drew := ⟨Nat.le_refl _, fun _ _ _ => rfl, fun _ _ h => h, fun _ _ _ => rfl, rfl, rfl, rfl⟩
  cases hx with
  | nil =>
    simp only [appA] at h
    obtain ⟨m, cells, vs, ⟨hb, hb', h0, h1⟩, hev, hvl, hcl, hrc⟩ := elems_vals R hy hpos h
    by_cases hm : m = 0
    · subst hm
      obtain ⟨h2, h3⟩ := firstCells_elems (P := X.P) hev hvl
      refine ⟨.slice none 0 0, w, ?_, _, _, h0 rfl, R.put d hd .nil⟩
      simp [Builtin.append_, run_underlying ht, run_size hi, h2, h3]
    · have hr := run_grow (w := w) t ty e i z ht hi hz (.slice none 0 0) u 0 0 m [] vs (.inl ⟨rfl, rfl, rfl, rfl⟩) (by simp) hev hvl (by omega) (by simpa using hb) (by omega)
      simp only [Nat.zero_add, List.nil_append] at hr
      refine ⟨_, _, hr, _, _, h1 (by omega) w.heap.size, ?_⟩
      have hR1 := R.grow hdrew
      have hrc1 : RelC (Fo X.fr own) w.drew vs.toArray cells := ⟨hrc.len, hrc.one, fun j v y hj hy => (hrc.rel j v y hj hy).mono (hdrew.mono fun _ _ f => f.elim) (fun _ _ h => h)⟩
      exact fresh s own w.drew hR1 cells vs m _ hrc1 hvl (grownCap_ge w m 0 e)
  | row k b o n zz cap csz T hn hs hc =>
    simp only [appA] at h
    obtain ⟨rfl, rfl, h⟩ := h
    cases hf : own.find k b with
    | none => simp [hf] at h
    | some ob =>
      obtain ⟨cs⟩ | ⟨_, _⟩ := ob
      rotate_left
      · simp [hf] at h
      simp only [hf] at h
      obtain ⟨m, cells, vs, ⟨hle, hb, hb', hK⟩, hev, hvl, hcl, hrc⟩ := elems_vals R hy hpos h
      have hm := Own.find_mem hf
      obtain ⟨⟨T', sz', hs', hl'⟩, hfz, hcs⟩ := R.ok.holds _ hm
      by_cases hroom : n + m ≤ cap
      · have hfit : n * i.size + vs.length ≤ csz := by
          have : (n + m) * i.size ≤ cap * i.size := Nat.mul_le_mul_right _ hroom
          rw [Nat.add_mul] at this
          omega
        obtain ⟨h1, h2, hR⟩ := R.store hf hrc hle (fun T2 sz2 h2 _ => by rw [hs] at h2; cases h2; rw [hcl]; omega)
        have hrun := run_room (w := w) t ty e i ht hi b n cap m u vs hev hvl hroom (by simpa using h1) (by simpa using h2) (fun v hv => by
          obtain ⟨j, hj⟩ := List.getElem?_of_mem hv
          exact hrc.one j v (by simpa using hj))
        refine ⟨_, _, hrun, _, _, hK b, ?_⟩
        refine (Rep.reown hR _ ?_ ?_).put d hd (.row _ _ _ _ _ cap csz T hroom (by rw [shape_setCells]; exact hs) hc)
        · intro e' he'
          rcases List.mem_cons.1 he' with rfl | he'
          · refine ⟨(k, b, .cells (cs.take (n * i.size) ++ cells ++ cs.drop (n * i.size + cells.length))), put_in hf, rfl, ?_⟩
            intro j x hx
            rw [List.getElem?_append_left (by have := (List.getElem?_eq_some_iff.1 hx).1; exact this)]
            exact hx
          · refine ⟨e', drop_put _ _ _ _ he', rfl, ?_⟩
            exact ObLe.refl _
        · simp only [List.map_cons, List.nodup_cons]
          exact ⟨drop_not hf R.ok.nodup, ((drop_sub own k).map _).nodup R.ok.nodup⟩
      · obtain ⟨os, hol, hoc, hor⟩ := vals_of (c := fun i => w.cell? ⟨b, i, none⟩) hcs 0 (n * i.size) (by omega)
        have hrun := run_grow (w := w) t ty e i z ht hi hz (.slice (some ⟨b, 0, none⟩) n cap) u n cap m os vs (.inr ⟨b, rfl, fun j v hj => by have := (hoc j v hj).1; rwa [Nat.zero_add] at this⟩) hol hev hvl (by omega) hb (by omega)
        refine ⟨_, _, hrun, _, _, hK w.heap.size, ?_⟩
        have hR1 := R.grow hdrew
        have hR2 := hR1.reown (own.drop k) (fun e' he' => ⟨e', (drop_sub own k).subset he', rfl, ObLe.refl _⟩) (((drop_sub own k).map _).nodup R.ok.nodup)
        have hFd : ∀ x, x < w.heap.size → Fo X.fr (own.drop k) x → Fo X.fr own x := fun x _ hx => hx.imp id (fun h => ((drop_sub own k).map _).subset h)
        have hrc1 : RelC (Fo X.fr (own.drop k)) w.drew (os ++ vs).toArray (cs.take (n * i.size) ++ cells) := by
          refine ⟨by simp [hol, hvl, hcl]; omega, fun j v hj => ?_, fun j v y hj hy => ?_⟩
          · simp only [List.getElem?_toArray] at hj
            by_cases hlt : j < os.length
            · rw [List.getElem?_append_left hlt] at hj
              exact (hoc j v hj).2
            · rw [List.getElem?_append_right (by omega)] at hj
              exact hrc.one _ v (by simpa using hj)
          · simp only [List.getElem?_toArray] at hj
            refine Rel.mono (F := Fo X.fr own) (w := w) ?_ (hdrew.mono fun _ _ f => f.elim) hFd
            by_cases hlt : j < os.length
            · rw [List.getElem?_append_left hlt] at hj
              rw [List.getElem?_append_left (by simp; omega)] at hy
              exact hor j v y hj (by simpa using hy)
            · rw [List.getElem?_append_right (by omega)] at hj
              rw [List.getElem?_append_right (by simp; omega)] at hy
              simp only [List.length_take, Nat.min_eq_left hle] at hy
              rw [hol] at hj
              exact hrc.rel _ v y (by simpa using hj) hy
        exact fresh s _ w.drew hR2 _ (os ++ vs) (n + m) _ hrc1 (by simp [hol, hvl, Nat.add_mul]) (grownCap_ge w (n + m) cap e)
  | _ => simp [appA] at h
end
end Go.Aw
