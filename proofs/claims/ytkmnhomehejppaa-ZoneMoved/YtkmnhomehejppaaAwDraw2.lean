/- Regions that draw their order, whose last operation comes behind all others: it may write what the others read. -/
import Derived.Test.YtkmnhomehejppaaAwIter
set_option linter.unusedSimpArgs false
set_option linter.unusedVariables false
set_option linter.deprecated false
namespace Go.Aw

section
variable {F : Fence} {n : Nat} {P : Program} {ops : Array Oper} {Q : Exit → Act → World → Prop} {S : World → Prop} {q : Nat}

/-- as 'anyS', but nothing is asked of the worlds behind operation 'q' -/
def anyT (F : Fence) (n : Nat) (P : Program) (ops : Array Oper) (Q : Exit → Act → World → Prop) (q : Nat) (S : World → Prop) : Nat → Array Bool → Act → World → Prop
  | 0, listed, a, w => Region.ready .any ops listed = [] ∧ Q .normal a w
  | fuel + 1, listed, a, w => (Region.ready .any ops listed = [] → Q .normal a w) ∧
    ∀ i ∈ Region.ready .any ops listed, wpOpIn F n P ops Q i (fun a' w' => (i ≠ q → S w') ∧ anyT F n P ops Q q S fuel (listed.setIfInBounds i true) a' w') a w

theorem anyT_mono {S' : World → Prop} (hS : ∀ w, S w → S' w) : ∀ (fuel : Nat) (listed : Array Bool) (a : Act) (w : World), anyT F n P ops Q q S fuel listed a w → anyT F n P ops Q q S' fuel listed a w
  | 0, _, _, _, h => h
  | fuel + 1, _, _, _, h => ⟨h.1, fun i hi => wpOpIn_mono (fun a w h2 => ⟨fun hne => hS w (h2.1 hne), anyT_mono hS fuel _ a w h2.2⟩) (h.2 i hi)⟩

theorem any_of_T : ∀ (fuel : Nat) (listed : Array Bool) (a : Act) (w : World), anyT F n P ops Q q S fuel listed a w → wpAnyIn F n P .any ops Q fuel listed a w
  | 0, _, _, _, h => h
  | fuel + 1, _, _, _, h => ⟨h.1, fun i hi => wpOpIn_mono (fun a w h2 => any_of_T fuel _ a w h2.2) (h.2 i hi)⟩

/-- what is listed has all that it waits for listed -/
def Closed (ops : Array Oper) (listed : Array Bool) : Prop := listed.size = ops.size ∧ ∀ (k : Nat) (o : Oper), ops[k]? = some o → listed.getD k false = true → ∀ e ∈ o.after, Region.binds .any e = true → listed.getD e.on false = true

theorem Closed.set {listed : Array Bool} (h : Closed ops listed) {j : Nat} (hj : j ∈ Region.ready .any ops listed) : Closed ops (listed.setIfInBounds j true) := by
  obtain ⟨_, oj, hoj, hall⟩ := mem_ready.1 hj
  refine ⟨by simp [h.1], fun k o ho hk e he hb => ?_⟩
  by_cases hjk : j = k
  · subst hjk
    rw [hoj] at ho
    cases ho
    exact getD_set_true (hall e he hb)
  · rw [getD_set_ne false hjk] at hk
    exact getD_set_true (h.2 k o ho hk e he hb)

/-- 'q' is ready when all others are listed -/
theorem sink_last {listed : Array Bool} (hc : Closed ops listed) (hs : oneSink ops q = true) (hq : q ∈ Region.ready .any ops listed) : ∀ i, i < ops.size → i ≠ q → listed.getD i false = true := by
  obtain ⟨_, oq, hoq, hall⟩ := mem_ready.1 hq
  have key : ∀ m i, ops.size - i = m → i < ops.size → i ≠ q → listed.getD i false = true := by
    intro m
    induction m using Nat.strongRecOn with
    | _ m ih =>
      intro i hm hi hne
      have h1 := List.all_eq_true.1 hs i (List.mem_range.2 hi)
      simp only [Bool.or_eq_true, beq_iff_eq, hne, false_or, List.any_eq_true, List.mem_range, Bool.and_eq_true, decide_eq_true_eq] at h1
      obtain ⟨j, hj, hij, ho⟩ := h1
      cases hoj : ops[j]? with
      | none => simp [hoj] at ho
      | some oj =>
        simp only [hoj, Option.any_some] at ho
        obtain ⟨e, he, hb⟩ := Array.any_eq_true'.1 ho
        simp only [Bool.and_eq_true, beq_iff_eq] at hb
        obtain ⟨hb1, rfl⟩ := hb
        by_cases hjq : j = q
        · subst hjq
          rw [hoq] at hoj
          cases hoj
          exact hall e he hb1
        · exact hc.2 j oj hoj (ih (ops.size - j) (by omega) j rfl hj hjq) e he hb1
  exact fun i hi hne => key _ i rfl hi hne

theorem anyT_first {i : Nat} {oi : Oper} {v : Value} (hF : ∀ f, F.fn f) (hi : ops[i]? = some oi) (hiq : i ≠ q) (hsk : oneSink ops q = true) (hsel : ∀ (j : Nat) (o : Oper), ops[j]? = some o → (∀ cs b, o.op ≠ .select cs b) ∧ ∀ c, o.op ≠ .defer c)
    (hQ : ∀ c a w, Q (.panic c) (a.put oi.dst v) w → Q (.panic c) a w) :
    ∀ (fuel : Nat) (listed : Array Bool) (a : Act) (w : World), Closed ops listed →
      (∀ j oj, ops[j]? = some oj → j ≠ i → listed.getD j true = false → (∀ e ∈ oj.after, Region.binds .any e = true → e.on ≠ i) → oi.apart ops oj = true) →
      i ∈ Region.ready .any ops listed → GivesS P ops S oi v a → S w →
      anyT F n P ops Q q S fuel (listed.setIfInBounds i true) (a.put oi.dst v) w → anyT F n P ops Q q S (fuel + 1) listed a w := by
  intro fuel
  induction fuel with
  | zero =>
    intro listed a w _ _ hr hy hS H
    refine ⟨fun h => (by rw [h] at hr; cases hr), fun j hj => ?_⟩
    by_cases hji : j = i
    · rw [hji]
      exact hy.op hF hi (hsel i oi hi).2 hS ⟨fun _ => hS, H⟩
    · have := ready_mono hj hji
      rw [H.1] at this
      cases this
  | succ fuel ih =>
    intro listed a w hcl hfree hr hy hS H
    refine ⟨fun h => (by rw [h] at hr; cases hr), fun j hj => ?_⟩
    by_cases hji : j = i
    · rw [hji]
      exact hy.op hF hi (hsel i oi hi).2 hS ⟨fun _ => hS, H⟩
    · have hjq : j ≠ q := fun he => by
        subst he
        have hlt : i < ops.size := (Array.getElem?_eq_some_iff.1 hi).1
        have h1 := sink_last hcl hsk hj i hlt (Ne.symm hji)
        have h0 := (mem_ready.1 hr).1
        have hlt' : i < listed.size := by rw [hcl.1]; exact hlt
        simp [hlt'] at h0 h1
        rw [h0] at h1
        cases h1
      have h1 := H.2 j (ready_mono hj hji)
      obtain ⟨hjun, oj, hoj, hall⟩ := mem_ready.1 hj
      have hnot : ∀ e ∈ oj.after, Region.binds .any e = true → e.on ≠ i := fun e he hb heq => by
        have h1 := hall e he hb
        have h0 := (mem_ready.1 hr).1
        rw [heq] at h1
        rcases Nat.lt_or_ge i listed.size with h' | h'
        · simp [h'] at h0 h1; rw [h0] at h1; cases h1
        · simp [Array.getElem?_eq_none h'] at h1
      have h2 := op_put hF hoj (hfree j oj hoj hji hjun hnot) (hsel i oi hi).1 (hsel j oj hoj).1 (hsel j oj hoj).2 hQ hy h1
      have hfree' : ∀ k ok, ops[k]? = some ok → k ≠ i → (listed.setIfInBounds j true).getD k true = false → (∀ e ∈ ok.after, Region.binds .any e = true → e.on ≠ i) → oi.apart ops ok = true := fun k ok hk hki hun hno => by
        refine hfree k ok hk hki ?_ hno
        by_cases hjk : j = k
        · subst hjk; exact hjun
        · rw [getD_set_ne true hjk] at hun; exact hun
      refine wpOpIn_mono (fun a' w' h3 => ⟨fun _ => h3.2.1 hjq, ih (listed.setIfInBounds j true) a' w' (hcl.set hj) hfree' (ready_mono hr (Ne.symm hji)) h3.1 (h3.2.1 hjq) ?_⟩) h2
      rw [Array.setIfInBounds_comm _ _ hji]
      exact h3.2.2
end

/-- how many are not listed -/
def cnt (listed : Array Bool) : Nat := listed.toList.count false

theorem cnt_set {listed : Array Bool} {i : Nat} (hi : i < listed.size) (h : listed.getD i true = false) : cnt listed = cnt (listed.setIfInBounds i true) + 1 := by
  unfold cnt
  rw [Array.toList_setIfInBounds, List.count_set (by simpa using hi)]
  have hx : listed[i] = false := by simpa [hi] using h
  have hpos : 0 < listed.toList.count false := List.count_pos_iff.2 (by rw [← hx]; simp)
  simp [hx]
  have : 0 < Array.count false listed := by simpa using hpos
  omega

theorem cnt_zero {listed : Array Bool} (h : cnt listed = 0) (i : Nat) (hi : i < listed.size) : listed.getD i true = true := by
  unfold cnt at h
  have := List.count_eq_zero.1 h
  cases hx : listed.getD i true with
  | true => rfl
  | false =>
    exfalso
    apply this
    have : listed[i] = false := by simpa [hi] using hx
    rw [← this]
    simp

theorem cnt_one {listed : Array Bool} (h : cnt listed = 1) {i j : Nat} (hi : i < listed.size) (hj : j < listed.size) (h1 : listed.getD i true = false) (h2 : listed.getD j true = false) : j = i := by
  by_cases he : j = i
  · exact he
  · exfalso
    have hc := cnt_set hi h1
    have h0 : cnt (listed.setIfInBounds i true) = 0 := by omega
    have := cnt_zero h0 j (by simpa using hj)
    rw [getD_set_ne true (Ne.symm he), h2] at this
    cases this

theorem cnt_all {listed : Array Bool} {q : Nat} (hq : q < listed.size) (hu : listed.getD q true = false) (h : ∀ i, i < listed.size → i ≠ q → listed.getD i false = true) : cnt listed = 1 := by
  rw [cnt_set hq hu]
  have : cnt (listed.setIfInBounds q true) = 0 := by
    unfold cnt
    refine List.count_eq_zero.2 (fun hm => ?_)
    obtain ⟨i, hi, he⟩ := List.getElem_of_mem hm
    simp only [Array.length_toList, Array.size_setIfInBounds] at hi
    by_cases hiq : i = q
    · subst hiq
      simp [hi] at he
    · have := h i hi hiq
      simp [hi] at this
      simp [Array.getElem_setIfInBounds, Ne.symm hiq, this] at he
  omega

/-- as 'runD'; the last operation has all that is owned -/
def runE (X : Cx) (K : Slots → Own → Prop) (A : Own) : List (Bool × AO) → Slots → Own → Prop
  | [], s, B => K s (A ++ B)
  | [(_, o)], s, B => guardP o.g s (opA X (fun _ _ _ => False) o.d o.op s (A ++ B) K) (K (putS o.d (.tup []) s) (A ++ B))
  | (al, o) :: x :: r, s, B => guardP o.g s
      (if o.op.isPure then o.op.step s (if al then A ++ B else A) (fun y => runE X K A (x :: r) (putS o.d y s) B)
       else opA (X.hide A) (fun _ _ _ => False) o.d o.op s B (runE X K A (x :: r)))
      (runE X K A (x :: r) (putS o.d (.tup []) s) B)

section
variable {X : Cx} {s : Slots} {A B own : Own} {a : Act} {w : World}

theorem done_T {K : Slots → Own → Prop} {ops : Array Oper} {q : Nat} {S : World → Prop} {P : Program} {n : Nat} : ∀ (fuel : Nat) (listed : Array Bool), eager P n ops fuel listed = some [] → onlyK X K .normal a w → anyT (wideR X.rd) 0 X.P ops (onlyK X K) q S fuel listed a w
  | 0, listed, he, h => by
    simp only [eager] at he
    split at he
    · rename_i hr; exact ⟨hr, h⟩
    · cases he
  | fuel + 1, listed, he, h => by
    simp only [eager] at he
    split at he
    · rename_i hr; exact ⟨fun _ => h, by rw [hr]; simp⟩
    · simp only [Option.bind_eq_some_iff, Option.map_eq_some_iff, reduceCtorEq, and_false, exists_false] at he
    · simp only [Option.bind_eq_some_iff, Option.map_eq_some_iff, reduceCtorEq, and_false, exists_false] at he

theorem runE_sound {K : Slots → Own → Prop} (A : Own) (ops : Array Oper) (q : Nat) (hsk : oneSink ops q = true) (hs : Region.noSelect ops = true) (hnd : ∀ (j : Nat) (o : Oper), ops[j]? = some o → ∀ c, o.op ≠ .defer c) : ∀ (fuel : Nat) (listed : Array Bool) (l : List (Bool × AO)) (L : List ((Nat → Prop) × World)) (s : Slots) (B : Own) (a : Act) (w : World),
    eager X.P X.n ops fuel listed = some l → l.length = cnt listed → Closed ops listed → q < ops.size ∧ listed.getD q true = false → Rep X s (A ++ B) a w → Seen L w → (∀ e, e ∈ L → ∀ b, B.has b → b < e.2.heap.size → e.1 b) → runE X K A l s B →
    anyT (wideR X.rd) 0 X.P ops (onlyK X K) q (Seen L) fuel listed a w := by
  have hsel : ∀ (j : Nat) (o : Oper), ops[j]? = some o → (∀ cs b, o.op ≠ .select cs b) ∧ ∀ c, o.op ≠ .defer c := fun j o ho => ⟨fun cs b => Region.noSelect_spec hs j o cs b ho, hnd j o ho⟩
  intro fuel
  induction fuel with
  | zero =>
    intro listed l L s B a w he hc hcl hqu R hS hI h
    have he' := he
    simp only [eager] at he
    split at he
    · cases he
      exact done_T 0 listed he' ⟨s, _, h, R⟩
    · cases he
  | succ fuel ih =>
    intro listed l L s B a w he hc hcl hqu R hS hI h
    -- the last operation
    have lastop : ∀ i o ao al, i ∈ Region.ready .any ops listed → ops[i]? = some o → compO X.P X.n ops o = some ao → eager X.P X.n ops fuel (listed.setIfInBounds i true) = some [] → l = [(al, ao)] →
        anyT (wideR X.rd) 0 X.P ops (onlyK X K) q (Seen L) (fuel + 1) listed a w := by
      intro i o ao al hir hi hco hl' hl
      subst hl
      have hc1 : cnt listed = 1 := by simpa using hc.symm
      have hil : i < listed.size := by rw [hcl.1]; exact (Array.getElem?_eq_some_iff.1 hi).1
      have hiu := (mem_ready.1 hir).1
      refine ⟨fun h0 => (by rw [h0] at hir; cases hir), fun j hj => ?_⟩
      obtain ⟨hju, oj, hoj, _⟩ := mem_ready.1 hj
      have hjl : j < listed.size := by rw [hcl.1]; exact (Array.getElem?_eq_some_iff.1 hoj).1
      obtain rfl := cnt_one hc1 hil hjl hiu hju
      obtain ⟨hcp, hd, hdn⟩ := compO_op hco
      have fin : ∀ a' w', onlyK X K .normal a' w' → (j ≠ q → Seen L w') ∧ anyT (wideR X.rd) 0 X.P ops (onlyK X K) q (Seen L) fuel (listed.setIfInBounds j true) a' w' := fun a' w' hk => by
        refine ⟨fun hne => ?_, done_T fuel _ hl' hk⟩
        exact absurd (cnt_one hc1 hil (by rw [hcl.1]; exact hqu.1) hiu hqu.2) (fun h => hne h.symm)
      unfold wpOpIn
      simp only [hi]
      simp only [runE] at h
      rcases guard_sound R ops o X.n ao hco h with ⟨hw, h⟩ | ⟨hw, h⟩
      · rw [if_pos hw]
        rw [hd] at h
        exact op_sound R o hdn ao.op hcp (Q := fun _ _ _ => False) (K := K) h _ _ (fun s' own' a' w' hK hR => fin a' w' ⟨s', own', hK, hR⟩) (fun c a' w' ⟨_, _, h, _⟩ => h.elim)
      · rw [if_neg (by simp [hw])]
        rw [hd] at h
        exact ⟨fun _ _ => trivial, fin _ _ ⟨_, _, h, R.put o.dst hdn (rel_undef _ _)⟩⟩
    -- not the last one
    have notq : ∀ i, i ∈ Region.ready .any ops listed → 2 ≤ l.length → i ≠ q := fun i hir h2 hiq => by
      subst hiq
      have h3 := sink_last hcl hsk hir
      have h4 := cnt_all (by rw [hcl.1]; exact hqu.1) hqu.2 (fun k hk hne => h3 k (by rw [← hcl.1]; exact hk) hne)
      omega
    have stay : ∀ i, i ∈ Region.ready .any ops listed → i ≠ q → cnt listed = cnt (listed.setIfInBounds i true) + 1 ∧ Closed ops (listed.setIfInBounds i true) ∧ (q < ops.size ∧ (listed.setIfInBounds i true).getD q true = false) := fun i hir hne => by
      obtain ⟨hun, o, ho, _⟩ := mem_ready.1 hir
      exact ⟨cnt_set (by rw [hcl.1]; exact (Array.getElem?_eq_some_iff.1 ho).1) hun, hcl.set hir, hqu.1, by rw [getD_set_ne true hne]; exact hqu.2⟩
    have late : ∀ i o ao x l', i ∈ Region.ready .any ops listed → ops[i]? = some o → compO X.P X.n ops o = some ao → eager X.P X.n ops fuel (listed.setIfInBounds i true) = some (x :: l') → l = (true, ao) :: x :: l' →
        wpOpIn (wideR X.rd) 0 X.P ops (onlyK X K) i (fun a' w' => (i ≠ q → Seen L w') ∧ anyT (wideR X.rd) 0 X.P ops (onlyK X K) q (Seen L) fuel (listed.setIfInBounds i true) a' w') a w := by
      intro i o ao x l' hir hi hco hl' hl
      subst hl
      have hne := notq i hir (by simp)
      obtain ⟨hc2, hcl2, hqu2⟩ := stay i hir hne
      have hc3 : (x :: l').length = cnt (listed.setIfInBounds i true) := by simp only [List.length_cons] at hc ⊢; omega
      obtain ⟨hcp, hd, hdn⟩ := compO_op hco
      unfold wpOpIn
      simp only [hi]
      simp only [runE] at h
      rcases guard_sound R ops o X.n ao hco h with ⟨hw, h⟩ | ⟨hw, h⟩
      · rw [if_pos hw]
        split at h
        · obtain ⟨v, y, hK, hr, hg⟩ := pure_op R o ao.op hcp h
          refine ⟨fun _ _ => trivial, ?_⟩
          rw [Oper.semAt_eq _ _ _ (hnd i o hi), hg w (Same.refl _ w)]
          rw [hd] at hK
          exact ⟨fun _ => hS, ih _ _ L _ B _ _ hl' hc3 hcl2 hqu2 (R.put o.dst hdn hr) hS hI hK⟩
        · have R1 := (R.swap.hide).now
          rw [hd] at h
          refine op_sound R1 o hdn ao.op hcp (Q := fun _ _ _ => False) (K := runE X K A (x :: l')) h _ _ (fun s' B' a' w' hK hR => ?_) (fun c a' w' h => ?_)
          · have hg : Grow B.has w w' := hR.kept
            have hS' := seen_step hS hI hg
            have hnew : ∀ b, B'.has b → B.has b ∨ w.heap.size ≤ b := hR.new
            refine ⟨fun _ => hS', ih _ _ L s' B' a' w' hl' hc3 hcl2 hqu2 (R.back hR) hS' (fun e he b hb hlt => ?_) hK⟩
            rcases hnew b hb with h | h
            · exact hI e he b h hlt
            · have := (hS e he).1
              omega
          · obtain ⟨_, _, h, _⟩ := h
            exact h.elim
      · rw [if_neg (by simp [hw])]
        rw [hd] at h
        exact ⟨fun _ _ => trivial, fun _ => hS, ih _ _ L _ B _ _ hl' hc3 hcl2 hqu2 (R.put o.dst hdn (rel_undef _ _)) hS hI h⟩
    have he' := he
    simp only [eager] at he
    split at he
    · rename_i hr
      cases he
      exact ⟨fun _ => ⟨s, _, h, R⟩, by rw [hr]; simp⟩
    · rename_i i hr
      have hir : i ∈ Region.ready .any ops listed := by rw [hr]; simp
      simp only [Option.bind_eq_some_iff, Option.map_eq_some_iff] at he
      obtain ⟨o, hi, ao, hco, l', hl', rfl⟩ := he
      cases l' with
      | nil => exact lastop i o ao true hir hi hco hl' rfl
      | cons x l' =>
        refine ⟨fun h0 => (by rw [hr] at h0; cases h0), fun j hj => ?_⟩
        rw [hr] at hj
        simp only [List.mem_singleton] at hj
        subst hj
        exact late _ o ao x l' hir hi hco hl' rfl
    · simp only [Option.bind_eq_some_iff, Option.map_eq_some_iff] at he
      obtain ⟨i, hf, o, hi, ao, hco, l', hl', rfl⟩ := he
      have hmem := List.mem_of_find?_eq_some hf
      have hb := List.find?_some hf
      simp only [hi, Option.bind_some, hco, Option.any_some, Bool.and_eq_true] at hb
      obtain ⟨hfree, hp⟩ := hb
      cases l' with
      | nil => exact lastop i o ao false hmem hi hco hl' rfl
      | cons x l' =>
      have hne := notq i hmem (by simp)
      obtain ⟨hc2, hcl2, hqu2⟩ := stay i hmem hne
      have hc3 : (x :: l').length = cnt (listed.setIfInBounds i true) := by simp only [List.length_cons] at hc ⊢; omega
      obtain ⟨hcp, hd, hdn⟩ := compO_op hco
      simp only [runE, hp, if_true, Bool.false_eq_true, if_false] at h
      have RA := R.hide
      let D : (Nat → Prop) × World := ((X.hide B).fr, w)
      have hS2 : Seen (D :: L) w := fun e he => by
        rcases List.mem_cons.1 he with rfl | he
        · exact ⟨Nat.le_refl _, Same.refl _ _⟩
        · exact hS e he
      have hI2 : ∀ e, e ∈ D :: L → ∀ b, B.has b → b < e.2.heap.size → e.1 b := fun e he b hb hlt => by
        rcases List.mem_cons.1 he with rfl | he
        · exact .inr hb
        · exact hI e he b hb hlt
      have fin : ∀ v, GivesS X.P ops (Seen (D :: L)) o v a → anyT (wideR X.rd) 0 X.P ops (onlyK X K) q (Seen (D :: L)) fuel (listed.setIfInBounds i true) (a.put o.dst v) w → anyT (wideR X.rd) 0 X.P ops (onlyK X K) q (Seen L) (fuel + 1) listed a w := fun v hv hk =>
        anyT_mono (fun w' h => fun e he => h e (List.mem_cons_of_mem _ he)) _ _ _ _
          (anyT_first (fun _ => trivial) hi hne hsk hsel (fun _ _ _ h => h) fuel listed a w hcl (Region.free_spec hi hfree) hmem hv hS2 hk)
      rcases guard_sound R ops o X.n ao hco h with ⟨hw, h⟩ | ⟨hw, h⟩
      · obtain ⟨v, y, hK, hr, hg⟩ := pure_op RA o ao.op hcp h
        refine fin v (.inl ⟨hw, fun w' hw' => hg w' ((hw' D (List.mem_cons_self ..)).2)⟩) ?_
        rw [hd] at hK
        exact ih _ _ (D :: L) _ B _ _ hl' hc3 hcl2 hqu2 (R.put o.dst hdn (hr.mono (Grow.refl _ _) (fun b _ h => fo_hide.2 h))) hS2 hI2 hK
      · refine fin undef (.inr ⟨hw, rfl⟩) ?_
        rw [hd] at h
        exact ih _ _ (D :: L) _ B _ _ hl' hc3 hcl2 hqu2 (R.put o.dst hdn (rel_undef _ _)) hS2 hI2 h

/-- The last operation of the region may write what the others read. -/
theorem awp_regE {Q : Post} {l : List (Bool × AO)} (A B : Own) (hm : X.P.follows .mixedOrders = true) (hp : own.Perm (A ++ B))
    (h : ∀ (K : Slots → Own → Prop), (∀ s own, Q .normal s own → K s own) → runE X K A l s B) : AWP X (.regD true l) s own Q := by
  intro c hc a w R
  obtain ⟨id, ops, hsl, rfl, ⟨hs, hd⟩, hx⟩ := comp_regD hc
  have hsl := hsl.symm
  simp only [sinkLast, Bool.and_eq_true, decide_eq_true_eq] at hsl
  obtain ⟨⟨h0, hll⟩, hsk⟩ := hsl
  have R1 : Rep X s (A ++ B) a w := R.reown _ (fun e he => ⟨e, hp.mem_iff.2 he, rfl, ObLe.refl _⟩) ((hp.map _).nodup_iff.1 R.ok.nodup)
  have R2 : Rep X s (A ++ B) a { w with drawn := w.drawn + 1 } := R1.grow ⟨Nat.le_refl _, fun _ _ _ => rfl, fun _ _ h => h, fun _ _ _ => rfl, rfl, rfl, rfl⟩
  have hlt0 : ops.size - 1 < ops.size := by omega
  have hcn : cnt (Array.replicate ops.size false) = ops.size := by simp [cnt]
  have h3 := runE_sound (K := fun s own => Q .normal s own) A ops (ops.size - 1) hsk hs (noDefer_spec hd) ops.size (Array.replicate ops.size false) l [] s B a _ hx (by rw [hcn, hll])
    ⟨by simp, fun k o ho hk => by
      have hlt := (Array.getElem?_eq_some_iff.1 ho).1
      simp [hlt] at hk⟩ ⟨hlt0, by simp [hlt0]⟩ R2 (fun e he => by cases he) (fun e he => by cases he) (h _ (fun _ _ h => h))
  refine wpIn_mono (wpIn_region_any hm (any_of_T _ _ _ _ h3)) ?_
  rintro e a' w' h4
  cases e with
  | normal => exact h4
  | _ => exact h4.elim
end

section
variable {X : Cx} {K : Slots → Own → Prop} {r : List (Bool × AO)} {x : Bool × AO} {s : Slots} {A B : Own} {d : Option Nat} {op : AOp} {al : Bool}
def goE (X : Cx) (K : Slots → Own → Prop) (A : Own) (p al : Bool) (d : Option Nat) (op : AOp) (r : List (Bool × AO)) (s : Slots) (B : Own) : Prop :=
  match p with
  | true => runA X (fun _ _ _ => False) (fun s' _ => runE X K A r s' B) [⟨d, none, op⟩] s (if al = true then A ++ B else A)
  | false => runA (X.hide A) (fun _ _ _ => False) (fun s' B' => runE X K A r s' B') [⟨d, none, op⟩] s B
theorem runE_last : runE X K A [(al, ⟨d, none, op⟩)] s B = runA X (fun _ _ _ => False) K [⟨d, none, op⟩] s (A ++ B) := by
  simp only [runE, runA, guardP]
theorem runE_go : runE X K A ((al, ⟨d, none, op⟩) :: x :: r) s B = goE X K A op.isPure al d op (x :: r) s B := by
  cases h : op.isPure with
  | true => simp only [runE, goE, runA, guardP, h, if_true, opA_pure h]
  | false =>
    simp only [runE, goE, runA, guardP, h, Bool.false_eq_true, if_false]
theorem goE_true : goE X K A true al d op r s B = runA X (fun _ _ _ => False) (fun s' _ => runE X K A r s' B) [⟨d, none, op⟩] s (if al = true then A ++ B else A) := by rfl
theorem goE_false : goE X K A false al d op r s B = runA (X.hide A) (fun _ _ _ => False) (fun s' B' => runE X K A r s' B') [⟨d, none, op⟩] s B := by rfl
end
attribute [go_sem] runE_last runE_go goE_true goE_false
end Go.Aw
