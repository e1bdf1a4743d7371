/- What a function is handed reads as abstract values, by the shape of its types. -/
import Derived.Test.YtkmnhomehejppaaAwCode
import Derived.ChangeShapes
import Derived.ChangeReads
import Derived.ChangeOld
import Derived.ChangeArms
import Derived.OpenShut
set_option linter.unusedSimpArgs false
set_option linter.unusedVariables false
set_option linter.deprecated false
namespace Go.Aw
open Go.WideShapes Go.ChangeShapes

/-- how far the fields reach, if each begins where the one before ends -/
def reach (P : Program) : List Field → Nat → Option Nat
  | [], n => some n
  | f :: r, n => if f.offset = n then reach P r (n + P.cellsOf f.type) else none

/-- the type is laid as expected, and so are those that it speaks of -/
def laysT (P : Program) (d : Option TypeDesc) (c : Nat) : Bool := match d with
  | some (.slice e) => decide (e < P.types.size) && decide (0 < P.cellsOf e)
  | some (.pointer e) => decide (e < P.types.size)
  | some (.map k e) => decide (k < P.types.size) && decide (e < P.types.size)
  | some (.struct fs) => fs.toList.all (fun f => decide (f.type < P.types.size)) && (reach P fs.toList 0 == some c)
  | some (.array n e) => decide (e < P.types.size) && (n * P.cellsOf e == c)
  | _ => true
def lays (P : Program) : Bool := (List.range P.types.size).all fun t => laysT P (P.underlying t) (P.cellsOf t)

theorem lays_at {P : Program} (h : lays P = true) {t : TypeId} (ht : t < P.types.size) {d : TypeDesc} (hu : P.underlying t = some d) : laysT P (some d) (P.cellsOf t) = true := by
  have := List.all_eq_true.1 h t (List.mem_range.2 ht)
  rwa [hu] at this

section
variable {H : Type} {enc : TypeId × Value → H} {P : Program} {w : World} {base : Nat} {sp : Nat → Bool}

theorem step_spare (hl : lays P = true) {r r' : TypeId → List Value → Option (DataW H × List MemPlace)}
    (hr : ∀ t cs x, t < P.types.size → r t cs = some x → (∀ p ∈ x.2, sp p.block = true) → r' t cs = some x) {t : TypeId} (ht : t < P.types.size) {cs : List Value} {x : DataW H × List MemPlace}
    (h : DataW.trodStep enc P w base (fun _ => true) true r t cs = some x) (hs : ∀ p ∈ x.2, sp p.block = true) : DataW.trodStep enc P w base sp true r' t cs = some x := by
  unfold DataW.trodStep at h ⊢
  split at h
  case h_6 e a hu =>
    have he : e < P.types.size := by simpa [laysT] using lays_at hl ht hu
    simp only [Option.map_eq_some_iff, Option.bind_eq_some_iff] at h ⊢
    obtain ⟨y, ⟨cs', hc, hy⟩, rfl⟩ := h
    exact ⟨y, ⟨cs', hc, hr _ _ _ he hy (fun p hp => hs p (by simp [hp]))⟩, rfl⟩
  case h_8 e a len cap hu =>
    have hE : e < P.types.size ∧ 0 < P.cellsOf e := by simpa [laysT] using lays_at hl ht hu
    simp only at h ⊢
    split at h
    · rename_i hc
      rw [if_pos hc]
      simp only [Option.map_eq_some_iff, Option.bind_eq_some_iff, if_true] at h ⊢
      obtain ⟨elems, he, rest, hrest, rfl⟩ := h
      have hrl : rest.length = cap - len := by simpa using mapM_some_length hrest
      have one : ∀ (i : Nat) (y : DataW H × List MemPlace), y ∈ elems ++ rest →
          (w.cells? base (a.add (i * P.cellsOf e)) (P.cellsOf e)).bind (r e) = some y → (w.cells? base (a.add (i * P.cellsOf e)) (P.cellsOf e)).bind (r' e) = some y := by
        intro i y hy hv
        simp only [Option.bind_eq_some_iff] at hv ⊢
        obtain ⟨cs', hc', hy'⟩ := hv
        refine ⟨cs', hc', hr _ _ _ hE.1 hy' (fun p hp => hs p ?_)⟩
        simp only [List.mem_append, List.mem_flatMap]
        right
        exact ⟨y, by simpa using hy, hp⟩
      refine ⟨elems, mapM_carry he (fun i y hi hy => one i y (by simp [hy])), rest, ?_, rfl⟩
      by_cases hsp : sp a.block = true
      · rw [if_pos hsp]
        exact mapM_carry hrest (fun j y hj hy => one (len + j) y (by simp [hy]))
      · rw [if_neg hsp]
        have hpos := hE.2
        cases rest with
        | nil => rfl
        | cons z zs =>
          refine absurd (hs (.cell a.block (a.off + 0)) ?_) hsp
          simp only [List.mem_append]
          left
          exact MemPlace.mem_row.2 ⟨0, Nat.mul_pos (by simp only [List.length_cons]; omega) hpos, rfl⟩
    · cases h
  case h_9 fs cs hu =>
    have hE := lays_at hl ht hu
    simp only [laysT, Bool.and_eq_true, List.all_eq_true, decide_eq_true_eq] at hE
    split at h
    · rename_i hc
      rw [if_pos hc]
      simp only [Option.map_eq_some_iff] at h ⊢
      obtain ⟨xs, hx, rfl⟩ := h
      exact ⟨xs, mapM_carry hx (fun f y hf hy hv => hr _ _ _ (hE.1 f hf) hv (fun p hp => hs p (List.mem_flatMap.2 ⟨y, hy, hp⟩))), rfl⟩
    · cases h
  case h_10 n e cs hu =>
    have hE := lays_at hl ht hu
    simp only [laysT, Bool.and_eq_true, decide_eq_true_eq] at hE
    split at h
    · rename_i hc
      rw [if_pos hc]
      simp only [Option.map_eq_some_iff] at h ⊢
      obtain ⟨xs, hx, rfl⟩ := h
      exact ⟨xs, mapM_carry hx (fun f y _ hy hv => hr _ _ _ hE.1 hv (fun p hp => hs p (List.mem_flatMap.2 ⟨y, hy, hp⟩))), rfl⟩
    · cases h
  case h_12 =>
    exact h
  case h_14 k e b hu =>
    have hE : k < P.types.size ∧ e < P.types.size := by simpa [laysT] using lays_at hl ht hu
    split at h
    · rename_i es clock hb
      split at h
      · rename_i hc
        simp only [Option.bind_eq_some_iff] at h
        obtain ⟨entries, he, hd⟩ := h
        split at hd
        · rename_i hris
          have hx := Option.some.inj hd
          subst hx
          simp only [if_pos hc, Option.bind_eq_some_iff]
          refine ⟨entries, mapM_carry he (fun x y _ hy hv => ?_), by simp [hris]⟩
          simp only [Option.bind_eq_some_iff] at hv ⊢
          obtain ⟨key, hk, hz⟩ := hv
          refine ⟨key, hk, ?_⟩
          split at hz
          · rename_i hf
            rw [if_pos hf]
            simp only [Option.map_eq_some_iff] at hz ⊢
            obtain ⟨q, hq, rfl⟩ := hz
            exact ⟨q, hr _ _ _ hE.2 hq (fun p hp => hs p (by simp only [List.mem_cons, List.mem_flatMap]; right; exact ⟨_, hy, hp⟩)), rfl⟩
          · cases hz
        · cases hd
      · cases h
    · cases h
  all_goals first | exact h | cases h

theorem trod_spare (hl : lays P = true) : ∀ (n : Nat) (t : TypeId) (cs : List Value) (x : DataW H × List MemPlace), t < P.types.size →
    DataW.trod enc P w base (fun _ => true) true n t cs = some x → (∀ p ∈ x.2, sp p.block = true) → DataW.trod enc P w base sp true n t cs = some x := by
  intro n
  induction n with
  | zero => intro t cs x _ h; simp [DataW.trod] at h
  | succ n ih =>
    intro t cs x ht h hs
    rw [DataW.trod_step] at h ⊢
    exact step_spare hl ih ht h hs

theorem all_spare (hl : lays P = true) {w' : World} : ∀ (ts : List TypeId) (vs : List Value) (ds : List (DataW H)) (ps : List MemPlace), (∀ t ∈ ts, t < P.types.size) →
    DataW.TrodAll enc P w base (fun _ => true) true ts vs ds ps → (∀ p ∈ ps, sp p.block = true) → (∀ p ∈ ps, w.sameAt w' p) → DataW.TrodAll enc P w' base sp true ts vs ds ps
  | [], vs, ds, ps, _, h, _, _ => by
    obtain ⟨rfl, rfl, rfl⟩ := trodAll_nil h
    rfl
  | t :: ts, vs, ds, ps, ht, h, hs, hw => by
    obtain ⟨v, vs', d, ds', p, q, rfl, rfl, rfl, ⟨n, h1⟩, h2⟩ := trodAll_cons h
    refine ⟨p, q, ⟨n, ?_⟩, all_spare hl ts vs' ds' q (fun u hu => ht u (List.mem_cons_of_mem _ hu)) h2 (fun x hx => hs x (List.mem_append_right _ hx)) (fun x hx => hw x (List.mem_append_right _ hx)), rfl⟩
    exact DataW.trod_carry n t _ _ (trod_spare hl n t _ _ (ht t (List.mem_cons_self ..)) h1 (fun x hx => hs x (List.mem_append_left _ hx))) (fun x hx => hw x (List.mem_append_left _ hx))
end

/-! ### readings are abstract values -/
/-- types of numbers, texts, and lists and records of these -/
def okT (P : Program) : Nat → TypeId → Bool
  | 0, _ => false
  | n + 1, t => decide (t < P.types.size) && match P.underlying t with
    | some .bool | some (.int _) | some .string => true
    | some (.pointer e) => decide (0 < P.cellsOf e) && okT P n e
    | some (.slice e) | some (.array _ e) => okT P n e
    | some (.struct fs) => fs.toList.all fun f => okT P n f.type
    | _ => false

/-- the cells of a value of a type -/
def Sh (P : Program) : Nat → TypeId → List AV → Prop
  | 0, _, _ => False
  | n + 1, t, xs => match P.underlying t with
    | some .bool => ∃ b, xs = [.bool b]
    | some (.int k) => ∃ i, xs = [.int k i] ∧ (Lit.int k i).wf = true
    | some .string => ∃ l, xs = [.str l] ∧ l.length ≤ maxLen
    | some (.pointer e) => xs = [.lit (.pointer none)] ∨ ∃ ys, xs = [.ref ys] ∧ Sh P n e ys
    | some (.slice e) => ∃ ys : List (List AV), xs = [.sl (ys.map .agg)] ∧ ys.length ≤ maxLen ∧ ∀ y, y ∈ ys → Sh P n e y
    | some (.struct fs) => ∃ ys : List (List AV), xs = ys.flatten ∧ ys.length = fs.size ∧ ∀ (i : Nat) (f : Field) (y : List AV), fs[i]? = some f → ys[i]? = some y → Sh P n f.type y
    | some (.array m e) => ∃ ys : List (List AV), xs = ys.flatten ∧ ys.length = m ∧ ∀ y, y ∈ ys → Sh P n e y
    | _ => False

def RelL (w : World) (cs : List Value) (xs : List AV) : Prop := xs.length = cs.length ∧ ∀ (j : Nat) (v : Value) (y : AV), cs[j]? = some v → xs[j]? = some y → v.oneCell' = true ∧ Rel (fun _ => False) w v y

theorem relL_one {w : World} {v : Value} {x : AV} (h1 : v.oneCell' = true) (h2 : Rel (fun _ => False) w v x) : RelL w [v] [x] := ⟨rfl, fun j v y hv hy => by
  cases j with
  | zero =>
    simp only [List.getElem?_cons_zero, Option.some.injEq] at hv hy
    rw [← hv, ← hy]
    exact ⟨h1, h2⟩
  | succ j => simp at hv⟩

theorem relL_app {w : World} {cs ds : List Value} {xs ys : List AV} (h : RelL w cs xs) (h' : RelL w ds ys) : RelL w (cs ++ ds) (xs ++ ys) := by
  refine ⟨by simp [h.1, h'.1], fun j v y hv hy => ?_⟩
  by_cases hj : j < cs.length
  · rw [List.getElem?_append_left hj] at hv
    rw [List.getElem?_append_left (by rw [h.1]; exact hj)] at hy
    exact h.2 j v y hv hy
  · rw [List.getElem?_append_right (by omega)] at hv
    rw [List.getElem?_append_right (by rw [h.1]; omega), h.1] at hy
    exact h'.2 _ v y hv hy

/-- pieces laid one behind the other -/
theorem glue {w : World} {cs : List Value} : ∀ (ls : List Nat) (ys : List (List AV)) (acc : Nat), ys.length = ls.length → acc + ls.sum ≤ cs.length →
    (∀ (i c : Nat) (y : List AV), ls[i]? = some c → ys[i]? = some y → RelL w ((cs.drop (acc + (ls.take i).sum)).take c) y) → RelL w ((cs.drop acc).take ls.sum) ys.flatten
  | [], [], acc, _, _, _ => ⟨by simp, fun j v y hv => by simp at hv⟩
  | c :: ls, y :: ys, acc, hl, hs, h => by
    simp only [List.sum_cons] at hs
    have h0 := h 0 c y rfl rfl
    simp only [List.take_zero, List.sum_nil, Nat.add_zero] at h0
    have h1 := glue (w := w) (cs := cs) ls ys (acc + c) (by simpa using hl) (by omega) (fun i c' y' hi hy => by
      have := h (i + 1) c' y' (by simpa using hi) (by simpa using hy)
      simpa [Nat.add_assoc] using this)
    have := relL_app h0 h1
    rw [List.flatten_cons, List.sum_cons]
    rw [show (cs.drop acc).take (c + ls.sum) = (cs.drop acc).take c ++ (cs.drop (acc + c)).take ls.sum by rw [List.take_add, List.drop_drop]]
    exact this

theorem reach_sum (P : Program) : ∀ (fs : List Field) (acc n : Nat), reach P fs acc = some n → n = acc + (fs.map fun f => P.cellsOf f.type).sum ∧ ∀ (i : Nat) (f : Field), fs[i]? = some f → f.offset = acc + ((fs.map fun f => P.cellsOf f.type).take i).sum
  | [], acc, n, h => by
    simp only [reach, Option.some.injEq] at h
    exact ⟨by simp [h], fun i f hf => by simp at hf⟩
  | f :: fs, acc, n, h => by
    simp only [reach] at h
    split at h
    · rename_i he
      obtain ⟨h1, h2⟩ := reach_sum P fs _ n h
      refine ⟨by simp [h1, Nat.add_assoc], fun i g hg => ?_⟩
      cases i with
      | zero => simp at hg; subst hg; simpa using he
      | succ i =>
        have := h2 i g (by simpa using hg)
        simp [this, Nat.add_assoc]
    · cases h

theorem exists_list {β : Type} (p : Nat → β → Prop) : ∀ n, (∀ i, i < n → ∃ y, p i y) → ∃ l : List β, l.length = n ∧ ∀ (i : Nat) (y : β), l[i]? = some y → p i y
  | 0, _ => ⟨[], rfl, fun i y h => by simp at h⟩
  | n + 1, h => by
    obtain ⟨l, hl, hp⟩ := exists_list p n (fun i hi => h i (by omega))
    obtain ⟨y, hy⟩ := h n (by omega)
    refine ⟨l ++ [y], by simp [hl], fun i z hz => ?_⟩
    by_cases hi : i < n
    · rw [List.getElem?_append_left (by omega)] at hz
      exact hp i z hz
    · rw [List.getElem?_append_right (by omega)] at hz
      have hi' : i - l.length = 0 := by
        have := (List.getElem?_eq_some_iff.1 hz).1
        simp at this
        omega
      rw [hi'] at hz
      simp at hz
      rw [show i = n by omega, ← hz]
      exact hy

section
variable {H : Type} {enc : TypeId × Value → H} {P : Program} {w : World} {sp : Nat → Bool}

theorem cells_get {a : Addr} {n : Nat} {cs : List Value} (h : w.cells? 0 a n = some cs) : cs.length = n ∧ ∀ (i : Nat) (v : Value), cs[i]? = some v → w.cell? (a.add i) = some v := by
  unfold World.cells? at h
  rw [if_pos (Nat.zero_le _)] at h
  have hl : cs.length = n := by simpa using mapM_some_length h
  refine ⟨hl, fun i v hv => ?_⟩
  have hi : i < n := by rw [← hl]; exact (List.getElem?_eq_some_iff.1 hv).1
  have := mapM_some_get h i i (by simp [hi])
  rw [this]
  exact hv

theorem cell_spot {a : Addr} {v : Value} (h : w.cell? a = some v) : a.spot = none ∧ a.block < w.heap.size := by
  unfold World.cell? at h
  cases hb : w.heap[a.block]? with
  | none => simp [hb] at h
  | some o =>
    refine ⟨?_, (Array.getElem?_eq_some_iff.1 hb).1⟩
    cases o <;> simp [hb] at h
    cases hs : a.spot with
    | none => rfl
    | some _ => simp [hs] at h

theorem add_plain {a : Addr} (h : a.spot = none) (i : Nat) : a.add i = ⟨a.block, a.off + i, none⟩ := by
  unfold Addr.add
  split
  · rename_i h0
    subst h0
    cases a
    simp at h
    simp [h]
  · rfl

theorem trod_sh (hl : lays P = true) : ∀ (k n : Nat) (t : TypeId) (cs : List Value) (x : DataW H × List MemPlace), okT P k t = true → DataW.trod enc P w 0 sp true n t cs = some x → ∃ xs, Sh P k t xs ∧ RelL w cs xs := by
  intro k
  induction k with
  | zero => intro n t cs x h; simp [okT] at h
  | succ k ih =>
    intro n t cs x hok h
    simp only [okT, Bool.and_eq_true, decide_eq_true_eq] at hok
    obtain ⟨ht, hok⟩ := hok
    cases hu : P.underlying t with
    | none => simp [hu] at hok
    | some d =>
      rw [hu] at hok
      have hla := lays_at hl ht hu
      cases d with
      | bool =>
        obtain ⟨b, rfl, _⟩ := DataW.trod_bool hu h
        exact ⟨[.bool b], by simp [Sh, hu], relL_one rfl (.bool b)⟩
      | int q =>
        obtain ⟨i, rfl, _, hw⟩ := DataW.trod_int hu h
        exact ⟨[.int q i], by simp [Sh, hu, hw], relL_one rfl (.int q i)⟩
      | string =>
        obtain ⟨s, rfl, _, hs⟩ := DataW.trod_string hu h
        refine ⟨[.str s.data.toList], by simp only [Sh, hu]; exact ⟨_, rfl, hs⟩, relL_one rfl ?_⟩
        have := Rel.str (F := fun _ => False) (w := w) s.data.toList
        simpa using this
      | pointer e =>
        rcases DataW.trod_pointer hu h with ⟨rfl, _⟩ | ⟨a, cs', y, n', _, rfl, _, hc, hy⟩
        · exact ⟨[.lit (.pointer none)], by simp [Sh, hu], relL_one rfl (.lit _)⟩
        · simp only [Bool.and_eq_true, decide_eq_true_eq] at hok
          obtain ⟨ys, h1, h2⟩ := ih n' e cs' y hok.2 hy
          obtain ⟨hcl, hcell⟩ := cells_get hc
          obtain ⟨hsp, hlt⟩ := cell_spot (a := a) (v := cs'[0]'(by omega)) (by
            have := hcell 0 _ (List.getElem?_eq_getElem (by omega))
            simpa [Addr.add] using this)
          have hz : ∀ (j : Nat) (z : AV), ys[j]? = some z → ∃ v, w.cell? ⟨a.block, a.off + j, none⟩ = some v ∧ v.oneCell' = true ∧ Rel (fun _ => False) w v z := fun j z hj => by
            have hlt : j < cs'.length := by rw [← h2.1]; exact (List.getElem?_eq_some_iff.1 hj).1
            have hv := List.getElem?_eq_getElem hlt
            have := hcell j _ hv
            rw [add_plain hsp] at this
            exact ⟨_, this, h2.2 j _ z hv hj⟩
          have ha : a = ⟨a.block, a.off, none⟩ := by cases a; simp at hsp; simp [hsp]
          refine ⟨[.ref ys], by simp only [Sh, hu]; exact .inr ⟨ys, rfl, h1⟩, relL_one rfl ?_⟩
          rw [ha]
          refine .ref a.block a.off ys (fun j => (w.cell? ⟨a.block, a.off + j, none⟩).getD undef) (fun f => f) hlt (fun j z hj => ?_) (fun j z hj => ?_) (fun j z hj => ?_)
          · obtain ⟨v, h3, _⟩ := hz j z hj
            simp [h3]
          · obtain ⟨v, h3, h4, _⟩ := hz j z hj
            simpa [h3] using h4
          · obtain ⟨v, h3, _, h5⟩ := hz j z hj
            simpa [h3] using h5
      | slice e =>
        rcases DataW.trod_slice hu h with ⟨rfl, _⟩ | ⟨a, len, cap, elems, rest, n', _, rfl, _, _, hlc, hcm, hel, hE, _⟩
        · exact ⟨[.sl []], by simp only [Sh, hu]; exact ⟨[], rfl, by simp, by simp⟩, relL_one rfl .slnil⟩
        · simp only [laysT, Bool.and_eq_true, decide_eq_true_eq] at hla
          obtain ⟨ys, hyl, hyp⟩ := exists_list (fun i ys => Sh P k e ys ∧ ∃ cs', w.cells? 0 (a.add (i * P.cellsOf e)) (P.cellsOf e) = some cs' ∧ RelL w cs' ys) len (fun i hi => by
            have hx : elems[i]? = some elems[i] := List.getElem?_eq_getElem (by omega)
            have := hE i hi
            rw [hx] at this
            obtain ⟨cs', hc, hy⟩ := Option.bind_eq_some_iff.1 this
            obtain ⟨ys, h1, h2⟩ := ih n' e cs' _ hok hy
            exact ⟨ys, h1, cs', hc, h2⟩)
          have hmem : ∀ y, y ∈ ys → Sh P k e y := fun y hy => by
            obtain ⟨i, hi⟩ := List.getElem?_of_mem hy
            exact (hyp i y hi).1
          refine ⟨[.sl (ys.map .agg)], by simp only [Sh, hu]; exact ⟨ys, rfl, by omega, hmem⟩, relL_one rfl ?_⟩
          · by_cases h0 : len = 0
            · subst h0
              have : ys = [] := List.length_eq_zero_iff.1 hyl
              subst this
              exact .sl0 a cap
            · obtain ⟨y0, hy0⟩ : ∃ y, ys[0]? = some y := ⟨ys[0]'(by omega), List.getElem?_eq_getElem (by omega)⟩
              obtain ⟨_, c0, hc0, hr0⟩ := hyp 0 y0 hy0
              obtain ⟨hl0, hg0⟩ := cells_get hc0
              obtain ⟨hsp, hlt⟩ := cell_spot (a := a) (v := c0[0]'(by omega)) (by
                have := hg0 0 _ (List.getElem?_eq_getElem (by omega))
                simpa [Addr.add] using this)
              have hz : ∀ (i : Nat) (y : List AV) (j : Nat) (z : AV), ys[i]? = some y → y[j]? = some z → ∃ v, w.cell? ⟨a.block, a.off + (i * P.cellsOf e + j), none⟩ = some v ∧ v.oneCell' = true ∧ Rel (fun _ => False) w v z := fun i y j z hi hj => by
                obtain ⟨_, c1, hc1, hr1⟩ := hyp i y hi
                obtain ⟨hl1, hg1⟩ := cells_get hc1
                have hlt : j < c1.length := by rw [← hr1.1]; exact (List.getElem?_eq_some_iff.1 hj).1
                have hv := List.getElem?_eq_getElem hlt
                have := hg1 j _ hv
                rw [add_plain hsp, add_plain rfl] at this
                simp only [Nat.add_assoc] at this
                exact ⟨_, this, hr1.2 j _ z hv hj⟩
              have hget : ∀ (i : Nat) (x : AV), (ys.map AV.agg)[i]? = some x → ∃ y, ys[i]? = some y ∧ x = .agg y := fun i x hx => by
                rw [List.getElem?_map] at hx
                obtain ⟨y, h1, h2⟩ := Option.map_eq_some_iff.1 hx
                exact ⟨y, h1, h2.symm⟩
              have ha : a = ⟨a.block, a.off, none⟩ := by cases a; simp at hsp; simp [hsp]
              rw [ha]
              refine .sl a.block a.off len cap (P.cellsOf e) _ (fun j => (w.cell? ⟨a.block, a.off + j, none⟩).getD undef) (fun f => f) hlt (by simp [hyl]) hlc (fun i x hx => ?_) (fun i x j z hx hj => ?_) (fun i x j z hx hj => ?_) (fun i x j z hx hj => ?_)
              · obtain ⟨y, hy, rfl⟩ := hget i x hx
                obtain ⟨_, c1, hc1, hr1⟩ := hyp i y hy
                show y.length = _
                rw [hr1.1, (cells_get hc1).1]
              · obtain ⟨y, hy, rfl⟩ := hget i x hx
                obtain ⟨v, h3, _⟩ := hz i y j z hy hj
                rw [Nat.add_assoc, h3]
                simp [h3]
              · obtain ⟨y, hy, rfl⟩ := hget i x hx
                obtain ⟨v, h3, h4, _⟩ := hz i y j z hy hj
                simpa [h3] using h4
              · obtain ⟨y, hy, rfl⟩ := hget i x hx
                obtain ⟨v, h3, _, h5⟩ := hz i y j z hy hj
                simpa [h3] using h5
      | struct fs =>
        simp only [List.all_eq_true] at hok
        obtain ⟨ps, n', _, _, hcl, hpl, hf⟩ := DataW.trod_struct hu h
        simp only [laysT, Bool.and_eq_true, beq_iff_eq] at hla
        obtain ⟨hsum, hoff⟩ := reach_sum P fs.toList 0 _ hla.2
        obtain ⟨ys, hyl, hyp⟩ := exists_list (fun i ys => ∀ f, fs[i]? = some f → Sh P k f.type ys ∧ RelL w ((cs.drop f.offset).take (P.cellsOf f.type)) ys) fs.size (fun i hi => by
          have hfi : fs[i]? = some fs[i] := Array.getElem?_eq_getElem hi
          have hx : ps[i]? = some ps[i] := List.getElem?_eq_getElem (by omega)
          have := hf i _ hfi
          rw [hx] at this
          obtain ⟨ys, h1, h2⟩ := ih n' _ _ _ (hok fs[i] (by simp)) this
          exact ⟨ys, fun f hff => by rw [hfi] at hff; cases hff; exact ⟨h1, h2⟩⟩)
        refine ⟨ys.flatten, by simp only [Sh, hu]; exact ⟨ys, rfl, hyl, fun i f y hfi hy => (hyp i y hy f hfi).1⟩, ?_⟩
        have hg := glue (w := w) (cs := cs) (fs.toList.map fun f => P.cellsOf f.type) ys 0 (by simp [hyl]) (by omega) (fun i c y hi hy => by
          rw [List.getElem?_map] at hi
          cases hfi : fs.toList[i]? with
          | none => simp [hfi] at hi
          | some f =>
            simp only [hfi, Option.map_some, Option.some.injEq] at hi
            rw [← hoff i f hfi, ← hi]
            exact (hyp i y hy f (by simpa using hfi)).2)
        rw [List.drop_zero, List.take_of_length_le (by omega)] at hg
        exact hg
      | array m e =>
        simp only [laysT, Bool.and_eq_true, decide_eq_true_eq, beq_iff_eq] at hla
        obtain ⟨ps, n', _, _, hcl, hpl, hE⟩ := DataW.trod_array hu h
        obtain ⟨ys, hyl, hyp⟩ := exists_list (fun i ys => Sh P k e ys ∧ RelL w ((cs.drop (i * P.cellsOf e)).take (P.cellsOf e)) ys) m (fun i hi => by
          have := hE i hi
          rw [List.getElem?_eq_getElem (show i < ps.length by omega)] at this
          exact ih n' e _ _ hok this)
        have hmem : ∀ y, y ∈ ys → Sh P k e y := fun y hy => by
          obtain ⟨i, hi⟩ := List.getElem?_of_mem hy
          exact (hyp i y hi).1
        refine ⟨ys.flatten, by simp only [Sh, hu]; exact ⟨ys, rfl, hyl, hmem⟩, ?_⟩
        · have hg := glue (w := w) (cs := cs) (List.replicate m (P.cellsOf e)) ys 0 (by simp [hyl]) (by simp; omega) (fun i c y hi hy => by
            have him : i < m := by have := (List.getElem?_eq_some_iff.1 hi).1; simpa using this
            have hc : c = P.cellsOf e := by
              rw [List.getElem?_replicate, if_pos him] at hi
              exact (Option.some.inj hi).symm
            rw [List.take_replicate, List.sum_replicate_nat, Nat.min_eq_left (by omega), hc, Nat.zero_add]
            exact (hyp i y hy).2)
          rw [List.drop_zero, List.sum_replicate_nat, List.take_of_length_le (by omega)] at hg
          exact hg
      | _ => simp at hok

/-- an argument, as an abstract value -/
def argAV (P : Program) (t : TypeId) (xs : List AV) : AV := match P.underlying t with
  | some (.struct _) | some (.array _ _) => .agg xs
  | _ => xs.headD .any

theorem cell_one {t : TypeId} {v : Value} {r : Reach} {base : Nat} (h : Cell.okWide P w r base t v) : v.oneCell' = true := by
  cases v with
  | agg cs =>
    unfold Cell.okWide Cell.ok at h
    cases hu : P.underlying t with
    | none => simp [hu] at h
    | some d => cases d <;> simp [hu] at h
  | tuple cs =>
    unfold Cell.okWide Cell.ok at h
    cases hu : P.underlying t with
    | none => simp [hu] at h
    | some d => cases d <;> simp [hu] at h
  | _ => rfl

theorem arg_rel {t : TypeId} {v : Value} {xs : List AV} {r : Reach} {base : Nat} (hval : Value.okWide P w r base t v) (h : RelL w v.cells.toList xs) : Rel (fun _ => False) w v (argAV P t xs) := by
  unfold Value.okWide at hval
  unfold argAV
  have one : v.oneCell' = true → Rel (fun _ => False) w v (xs.headD .any) := fun h1 => by
    have hc : v.cells = #[v] := by cases v <;> first | rfl | cases h1
    rw [hc] at h
    obtain ⟨hl, hr⟩ := h
    obtain ⟨x, rfl⟩ := List.length_eq_one_iff.1 (show xs.length = 1 by simpa using hl)
    exact (hr 0 v x rfl rfl).2
  split at hval
  · rename_i fs hu
    obtain ⟨cs, rfl, _⟩ := hval
    rw [hu]
    exact .agg cs xs (by simpa [Value.cells] using h.1.symm) (fun j u hj => by
      have hlt := (Array.getElem?_eq_some_iff.1 hj).1
      have hx : xs[j]? = some (xs[j]'(by rw [h.1]; simpa [Value.cells] using hlt)) := List.getElem?_eq_getElem _
      exact (h.2 j u _ (by simpa [Value.cells] using hj) hx).1) (fun j u y hj hy => (h.2 j u y (by simpa [Value.cells] using hj) hy).2)
  · rename_i m e hu
    obtain ⟨cs, rfl, _⟩ := hval
    rw [hu]
    exact .agg cs xs (by simpa [Value.cells] using h.1.symm) (fun j u hj => by
      have hlt := (Array.getElem?_eq_some_iff.1 hj).1
      have hx : xs[j]? = some (xs[j]'(by rw [h.1]; simpa [Value.cells] using hlt)) := List.getElem?_eq_getElem _
      exact (h.2 j u _ (by simpa [Value.cells] using hj) hx).1) (fun j u y hj hy => (h.2 j u y (by simpa [Value.cells] using hj) hy).2)
  · rename_i h1 h2
    have : (match P.underlying t with | some (.struct _) | some (.array _ _) => AV.agg xs | _ => xs.headD .any) = xs.headD .any := by
      split
      · rename_i hu; exact absurd hu (h1 _)
      · rename_i hu; exact absurd hu (h2 _ _)
      · rfl
    rw [this]
    exact one (cell_one hval)

/-- all arguments -/
inductive Args (P : Program) (k : Nat) : List TypeId → List AV → Prop
  | nil : Args P k [] []
  | cons (t : TypeId) (ts : List TypeId) (xs : List AV) (as : List AV) (h : Sh P k t xs) (hr : Args P k ts as) : Args P k (t :: ts) (argAV P t xs :: as)

theorem args_of (hl : lays P = true) (k : Nat) {r : Reach} {base : Nat} : ∀ (ts : List TypeId) (vs : List Value) (ds : List (DataW H)) (ps : List MemPlace), (∀ t ∈ ts, okT P k t = true) → DataW.TrodAll enc P w 0 sp true ts vs ds ps →
    (∀ (j : Nat) t v, ts[j]? = some t → vs[j]? = some v → Value.okWide P w r base t v) → ∃ as, Args P k ts as ∧ vs.length = as.length ∧ ∀ (j : Nat) (v : Value) (y : AV), vs[j]? = some v → as[j]? = some y → Rel (fun _ => False) w v y
  | [], vs, ds, ps, _, h, _ => by
    obtain ⟨rfl, rfl, rfl⟩ := trodAll_nil h
    exact ⟨[], .nil, rfl, fun j v y hv => by simp at hv⟩
  | t :: ts, vs, ds, ps, hok, h, hval => by
    obtain ⟨v, vs', d, ds', p, q, rfl, rfl, rfl, ⟨n, h1⟩, h2⟩ := trodAll_cons h
    obtain ⟨xs, hx, hr⟩ := trod_sh hl k n t _ _ (hok t (List.mem_cons_self ..)) h1
    obtain ⟨as, ha, hal, har⟩ := args_of hl k ts vs' ds' q (fun u hu => hok u (List.mem_cons_of_mem _ hu)) h2 (fun j u z hu hz => hval (j + 1) u z (by simpa using hu) (by simpa using hz))
    refine ⟨argAV P t xs :: as, .cons t ts xs as hx ha, by simp [hal], fun j u y hu hy => ?_⟩
    cases j with
    | zero =>
      simp only [List.getElem?_cons_zero, Option.some.injEq] at hu hy
      rw [← hu, ← hy]
      exact arg_rel (hval 0 t v rfl rfl) hr
    | succ j => exact har j u y (by simpa using hu) (by simpa using hy)
end
end Go.Aw
